import Derived.Test.YtbohadngdkjljaaGreatStabC
namespace Go.Proofs.YtbohadngdkjljaaGreat
open Go Go.Fw
set_option linter.unusedVariables false
set_option linter.unusedSimpArgs false
variable {α β:Type}
def GP (c:AB):HO:=(c.Row,c.Col)
def gX (k:HO) (c:AB):Option AL:=if GP c=k then some c.Val else none
def EE (r:Int) (k:HO):List AB→Option AL
 | []=>none
 | c :: l=>dJ r (gX k c) (EE r k l)
def VA (l:List AB):Prop:=∀ c∈l,LI c.Val
def StrC (l:List AB):Prop:=l.Pairwise SJ
theorem S7 {k:HO} {c:AB} (h:LI c.Val):yL (gX k c):=fun w D=>by unfold gX at D; split at D <;> cases D; exact h
theorem Ab9 {r:Int} {a b:Option AL} (G:yL a) (D:yL b):yL (dJ r a b):=by
 intro w h
 cases a with
 | none=>exact D w h
 | some x=>cases b with
  | none=>exact G w h
  | some y=>cases h; exact QK (G x rfl) (D y rfl)
theorem LK {r:Int} {k:HO}:∀ {l:List AB},VA l→yL (EE r k l)
 | [],_=>fun w G=>by cases G
 | c :: l,h=>Ab9 (S7 (h c (by simp))) (LK fun d D=>h d (List.mem_cons_of_mem _ D))
theorem FK {r:Int} {k:HO}:∀ {xs ys:List AB},VA xs→VA ys→EE r k (xs++ys)=dJ r (EE r k xs) (EE r k ys)
 | [],ys,_,_=>rfl
 | c :: l,ys,h,h'=>by
  have hl:VA l:=fun d D=>h d (List.mem_cons_of_mem _ D)
  rw [List.cons_append,EE,EE,FK hl h',M8 (S7 (h c (by simp))) (LK hl) (LK h')]
theorem oP {xs ys:List AB} (h:xs.Perm ys) (D:VA xs):VA ys:=fun c G=>D c (h.mem_iff.2 G)
theorem fG {r:Int} {k:HO} {xs ys:List AB} (h:xs.Perm ys) (D:VA xs):EE r k xs=EE r k ys:=by
 induction h with
 | nil=>rfl
 | cons c h Y=>rw [EE,EE,Y fun d O=>D d (List.mem_cons_of_mem _ O)]
 | swap a b l=>
  have G:=S7 (k:=k) (D a (by simp))
  have J:=S7 (k:=k) (D b (by simp))
  have W:=LK (r:=r) (k:=k) (l:=l) fun d O=>D d (by simp [O])
  rw [EE,EE,EE,EE,←M8 J G W,←M8 G J W,oH G J]
 | trans G J U V=>exact (U D).trans (V (oP G D))
theorem oQ {r:Int} {k:HO}:∀ {l:List AB},(∀ c∈l,GP c≠k)→EE r k l=none
 | [],_=>rfl
 | c :: l,h=>by
  rw [EE,oQ fun d D=>h d (List.mem_cons_of_mem _ D)]
  unfold gX
  rw [if_neg (h c (by simp))]; rfl
theorem rL {a b:AB} (h:SJ a b):GP a≠GP b:=fun e=>by unfold SJ at h; unfold GP at e; rw [e] at h; exact EH _ h
theorem lQ {r:Int}:∀ {l:List AB},StrC l→∀ {c:AB},c∈l↔EE r (GP c) l=some c.Val
 | [],_,c=>by simp [EE]
 | d :: l,h,c=>by
  unfold StrC at h
  rw [List.pairwise_cons] at h
  rw [EE,List.mem_cons]
  by_cases e:GP d=GP c
  · rw [oQ (fun x J=>by rw [←e]; exact (rL (h.1 x J)).symm)]
    unfold gX
    rw [if_pos e,KW]
    constructor
    · rintro (rfl | D)
      · rfl
      · exact absurd e (rL (h.1 c D))
    · intro G
      left
      have hv':=Option.some.inj G
      clear G
      unfold GP at e
      cases c; cases d
      simp only [Prod.mk.injEq] at e hv'
      obtain ⟨rfl,rfl⟩:=e
      rw [hv']
  · unfold gX
    rw [if_neg e]
    show _↔EE r (GP c) l=some c.Val
    rw [←lQ h.2]
    constructor
    · rintro (rfl | D)
      · exact absurd rfl e
      · exact D
    · exact .inr
theorem StrC.nodup {l:List AB} (h:StrC l):l.Nodup:=by
 rw [List.nodup_iff_pairwise_ne]
 exact List.Pairwise.imp (R:=SJ) (fun {a b} D (e:a=b)=>rL D (by rw [e])) h
theorem fH {r:Int} {s t:List AB} (G:StrC s) (D:StrC t) (h:∀ k,EE r k s=EE r k t):s=t:=
 bG ((List.perm_ext_iff_of_nodup G.nodup D.nodup).2 fun c=>by rw [lQ (r:=r) G,lQ (r:=r) D,h]) G D fun a b _ _ O J=>absurd (IM O J) (EH _)
theorem lR {l:List AB} (h:∀ (j:Nat) (h1:j+1<l.length),SJ l[j] l[j+1]):StrC l:=by
 unfold StrC
 rw [List.pairwise_iff_getElem]
 intro i j hi G D
 obtain ⟨d,rfl⟩:∃ d,j=i+1+d:=⟨j - i - 1,by omega⟩
 clear D
 induction d with
 | zero=>exact h i G
 | succ d J=>exact IM (J (by omega)) (h (i+1+d) G)
theorem gY {l:List AB} {Q:Bool→Prop} (hl:l.length≤1000000) (O:StrC l→Q true) (V:¬StrC l→Q false):JO l Q:=by
 unfold JO
 refine D7 l.length (by omega) (fun i=>∀ (j:Nat) (O:j+1<l.length),j+1<i→SJ l[j] l[j+1]) (fun j _ h=>by omega) (fun i next hi G J=>?_) (fun next G=>?_)
 · refine A0 (fun _=>A0 (fun hp=>?_) (fun hp=>J fun j _ h=>by omega)) (fun h=>by omega)
   obtain ⟨i,rfl⟩:∃ q,i=q+1:=⟨i - 1,by omega⟩
   rw [TU (by omega) (by omega),Nat.add_sub_cancel]
   refine AK (by omega) (AK hi (S6 (A0 (fun W=>V fun U=>?_) (fun W=>J fun j D h=>?_))))
   · have:=(RV l[i] l[i+1]).2 (List.pairwise_iff_getElem.1 U i (i+1) (by omega) hi (by omega))
     omega
   · by_cases e:j=i
     · subst e; exact (RV l[j] l[j+1]).1 (by omega)
     · exact G j D (by omega)
 · exact A0 (fun h=>by omega) (fun _=>O (lR fun j D=>G j D D))
theorem oR {x y:AB}:uV (QJ x.Row y.Row) (QJ x.Col y.Col)=0↔GP x=GP y:=by
 unfold uV QJ GP
 simp only [Prod.mk.injEq]
 split <;> split <;> (try split) <;> (try split) <;> omega
theorem rM {L:List (List AB)} {Q:List AB→Prop} (hl:L.length≤1000000) (hf:L.flatten.length≤100000000) (Z:Q L.flatten):DD L Q:=by
 unfold DD F2
 have Y:∀ {i:Nat} (h:i<L.length),(L.take (i+1)).flatten=(L.take i).flatten++L[i]:=fun h=>by rw [List.take_succ_eq_append_getElem h,List.flatten_append]; simp
 have W:∀ i:Nat,(L.take i).flatten.length≤L.flatten.length:=fun i=>by
   conv=>rhs; rw [←List.take_append_drop i L,List.flatten_append,List.length_append]
   omega
 refine B2 (fun (s:Int) i=>(s,i)) 0 L.length (by omega) (fun i s=>s=((L.take i).flatten.length:Nat)) (by omega) rfl (fun i s next _ hi J U=>?_) (fun s next J=>?_)
 · subst J
   have V:=W (i+1)
   have O:=Y hi
   rw [O,List.length_append] at V
   refine A0 (fun _=>AK hi ?_) (fun h=>by omega)
   rw [ZN (by omega) (by omega)]
   exact A0 (fun h=>by omega) (fun _=>U _ (by rw [O,List.length_append]))
 · subst J
   refine A0 (fun h=>by omega) (fun _=>?_)
   rw [List.take_length,AJ (x:=0 - 0) (by omega) (by omega),AJ (x:=((L.flatten.length:Nat):Int) - (0 - 0)) (by omega) (by omega)]
   have hk:B1 (fun (s:(List AB)×Int) (D:((List AB)×Int)→Prop)=>match s with | (s266,s270)=>AD (decide (s270<(L.length:Int))) (AN L s270 fun G=>ED 32 s266 G fun _=>D ((s266++G),A7 (s270+1))) (Q s266)) ([],0):=by
    refine B2 (fun (s:List AB) i=>(s,i)) 0 L.length (by omega) (fun i s=>s=(L.take i).flatten) (by omega) rfl (fun i s next _ hi J U=>?_) (fun s next J=>?_)
    · subst J
      have V:=W (i+1)
      have O:=Y hi
      rw [O,List.length_append] at V
      refine A0 (fun _=>AK hi (AR (by omega) (U _ O.symm))) (fun h=>by omega)
    · subst J
      refine A0 (fun h=>by omega) (fun _=>?_)
      rw [List.take_length]; exact Z
   exact A0 (fun h=>by omega) (fun _=>A0 (fun h=>⟨by omega,by omega,hk⟩) (fun h=>hk))
theorem gZ {r:Int} {L:List (List AB)} {Q:List AB×Int→Prop} (hl:L.length≤1000000) (hf:L.flatten.length≤1000000) (hok:VA L.flatten) (h8:¬(1≤r∧r≤5)→Q ([],8)) (h6:(1≤r∧r≤5)→¬(∀ l∈L,StrC l)→Q ([],6))
   (h0:(1≤r∧r≤5)→(∀ l∈L,StrC l)→∀ s,StrC s→VA s→s.length≤L.flatten.length→(∀ k,EE r k s=EE r k L.flatten)→Q (s,0)):NK r L Q:=by
 unfold NK
 refine LW (CF (fun h=>h8 (of_decide_eq_false h)) (fun h=>?_))
 have hr:=of_decide_eq_true h
 unfold D1 DG NJ
 have elen:∀ l∈L,l.length≤1000000:=fun l hm=>by
   have:=(List.sublist_flatten_of_mem hm).length_le
   omega
 refine D7 L.length (by omega) (fun i=>∀ (q:Nat) (hq:q<L.length),q<i→StrC L[q]) (fun q _ h=>by omega) (fun i next hi hm hn=>?_) (fun next hm=>?_)
 · refine A0 (fun _=>AK hi (gY (elen _ (List.getElem_mem hi)) (fun hs=>AC rfl (hn fun q hq hqi=>?_)) (fun hs=>AY rfl (AY (decide_eq_true (by omega)) (h6 hr fun ha=>hs (ha _ (List.getElem_mem hi))))))) (fun h=>by omega)
   by_cases e:q=i
   · subst e; exact hs
   · exact hm q hq (by omega)
 refine A0 (fun h=>by omega) (fun _=>AC (by decide) (rM hl (by omega) (yW (by omega) fun t hp hs=>?_)))
 have hall:∀ l∈L,StrC l:=fun l U=>by obtain ⟨q,hq,rfl⟩:=List.getElem_of_mem U; exact hm q hq hq
 have hot:VA t:=oP hp.symm hok
 have htl:=hp.length_eq
 have hfin:=h0 hr hall
 refine B2 (fun (s:List AB) i=>(s,i)) 0 t.length (by omega) (fun i s=>StrC s∧VA s∧s.length≤i∧(∀ k,EE r k s=EE r k (t.take i))∧(s=[]∧i=0∨∃ p y,s=p++[y]∧0<i∧GP y=GP (gC t (i - 1)))) (by omega) ⟨.nil,(fun c D=>by cases D),Nat.le_refl _,fun _=>rfl,.inl ⟨rfl,rfl⟩⟩ (fun i s next _ hi U hn=>?_) (fun s next U=>?_)
 · obtain ⟨V,m2,m3,m4,m5⟩:=U
   have hx:LI t[i].Val:=hot _ (List.getElem_mem hi)
   have J:VA [t[i]]:=fun c D=>by rw [List.mem_singleton] at D; subst D; exact hx
   have hoti:VA (t.take i):=fun c D=>hot c (List.mem_of_mem_take D)
   have htk:∀ k,EE r k (t.take (i+1))=dJ r (EE r k s) (gX k t[i]):=fun k=>by
     rw [List.take_succ_eq_append_getElem hi,FK hoti J,←m4 k,EE,EE,KW]
   have Y:=lN hi
   refine A0 (fun _=>AK hi ?_) (fun h=>by omega)
   have app:StrC (s++[t[i]])→ED 32 s [t[i]] fun _=>next (s++[t[i]],A7 ((i:Int)+1)):=fun hstr=>AR (by simp; omega) (hn _ ⟨hstr,fun c D=>by
       rcases List.mem_append.1 D with h | h
       · exact m2 c h
       · exact J c h,by simp; omega,fun k=>by rw [htk,FK m2 J,EE,EE,KW],.inr ⟨s,t[i],rfl,by omega,by rw [Nat.add_sub_cancel,←Y]⟩⟩)
   unfold EC
   rcases m5 with ⟨rfl,rfl⟩ | ⟨p,y,rfl,i0,hy⟩
   · exact A0 (fun h=>by simp at h) (fun _=>AC rfl (app (by simp [StrC])))
   · have m3':p.length+1≤i:=by simpa using m3
     have Z:(A7 ((((p++[y]).length:Nat):Int) - 1))=((p.length:Nat):Int):=by
       rw [List.length_append,List.length_singleton,TU (by omega) (by omega),Nat.add_sub_cancel]
     rw [Z]
     have G:(p++[y])[p.length]? = some y:=by simp
     refine A0 (fun _=>A9 (x:=y) (by omega) G (S6 (BA (fun he=>?_) (fun he=>?_)))) (fun h=>by simp at h)
     · have O:=oR.1 he
       have hyo:LI y.Val:=m2 y (by simp)
       refine A9 (x:=y) (by omega) G (V4 hyo hx (A9 (x:=y) (by omega) G ?_))
       rw [show (p++[y]).set ((p.length:Nat):Int).toNat (⟨y.Row,y.Col,F6 r y.Val t[i].Val⟩:AB)=p++[⟨y.Row,y.Col,F6 r y.Val t[i].Val⟩] by simp]
       have W:VA p:=fun c D=>m2 c (by simp [D])
       have hy1:VA [y]:=fun c D=>by rw [List.mem_singleton] at D; subst D; exact hyo
       have hy2:VA [⟨y.Row,y.Col,F6 r y.Val t[i].Val⟩]:=fun c D=>by rw [List.mem_singleton] at D; subst D; exact QK hyo hx
       refine hn _ ⟨?_,fun c D=>?_,by simp at m3 ⊢; omega,fun k=>?_,.inr ⟨p,_,rfl,by omega,?_⟩⟩
       · unfold StrC at V ⊢
         rw [List.pairwise_append] at V ⊢
         refine ⟨V.1,by simp,fun a ha b hb=>?_⟩
         rw [List.mem_singleton] at hb; subst hb
         exact V.2.2 a ha y (by simp)
       · rcases List.mem_append.1 D with h | h
         · exact W c h
         · exact hy2 c h
       · rw [htk,FK W hy2,FK W hy1,M8 (LK W) (LK hy1) (S7 hx)]
         congr 1
         rw [EE,EE,KW,EE,EE,KW]
         unfold gX
         by_cases ek:GP y=k
         · rw [if_pos (show GP ⟨y.Row,y.Col,F6 r y.Val t[i].Val⟩=k from ek),if_pos ek,if_pos (O.symm.trans ek)]; rfl
         · rw [if_neg (show ¬GP ⟨y.Row,y.Col,F6 r y.Val t[i].Val⟩=k from ek),if_neg ek,if_neg (fun h=>ek (O.trans h))]; rfl
       · rw [Nat.add_sub_cancel,←Y]; exact O
     · have hne:GP y≠GP t[i]:=fun h=>he (oR.2 h)
       refine app ?_
       have hle:fF (gC t (i - 1)) (gC t i):=hs _ _ (by omega) (by omega) (by omega)
       rw [←Y] at hle
       have hyx:SJ y t[i]:=ZE (a:=GP t[i]) (b:=GP y) (by rw [hy]; exact hle) fun e=>hne e.symm
       unfold StrC at V ⊢
       rw [List.pairwise_append]
       refine ⟨V,by simp,fun a ha b hb=>?_⟩
       rw [List.mem_singleton] at hb; subst hb
       rcases List.mem_append.1 ha with h | h
       · rw [List.pairwise_append] at V
         exact IM (V.2.2 a h y (by simp)) hyx
       · rw [List.mem_singleton] at h; subst h; exact hyx
 · obtain ⟨V,m2,m3,m4,m5⟩:=U
   refine A0 (fun h=>by omega) (fun _=>hfin s V m2 (by omega) fun k=>?_)
   rw [m4,List.take_length]
   exact fG hp hot
theorem DO {rows cols:Int} {T:List A3} (h:Canon rows cols T) {l u c d:Int} (l0:0≤l) (l1:l≤u) (l2:u≤rows) (h0:0≤c) (h1:c≤d) (h2:d≤cols) :
  bI rows cols T (l,u) (c,d)=B0 (u - l) (d - c) (HI l u c d T)∧Canon (u - l) (d - c) (HI l u c d T)∧∀ i j:Int,0≤i→i<u - l→0≤j→j<d - c→WZ (dK (HI l u c d T) i) j=WZ (dK T (i+l)) (j+c):=by
 have Y:UG l=l:=by unfold UG; split <;> omega
 have V:WY u rows=u:=by unfold WY; split <;> omega
 have e3:ext l u rows=u - l:=by unfold ext; rw [Y,V]; split <;> omega
 have O:UG c=c:=by unfold UG; split <;> omega
 have U:WY d cols=d:=by unfold WY; split <;> omega
 have Z:ext c d cols=d - c:=by unfold ext; rw [O,U]; split <;> omega
 have J:=bJ h (l,u) (c,d)
 simp only [Y,V,e3,O,U,Z] at J
 refine ⟨by unfold bI; simp only [Y,V,e3,O,U,Z],J,fun i j D hi1 W hj1=>Ab5 fun a=>?_⟩
 rw [oL J D,oL h (by omega),tJ]
 exact ⟨fun G=>G.1,fun G=>⟨G,⟨D,by dsimp only; omega⟩,W,by dsimp only; omega⟩⟩
theorem ZO {l u c d:Int} {T:List A3} (h:∀ t∈T,GN t.Val):∀ t∈HI l u c d T,GN t.Val:=fun t D=>by
 have:=h _ ((tJ t).1 D).1
 exact this
theorem WQ {r:Int} {k:HO} {A B:List A3} {t:A3} {M:List A3}:EE r k (FT r A B (t :: M))=dJ r (if (t.Row,t.Col)=k then KY r A B t.Row t.Col else none) (EE r k (FT r A B M)):=by
 unfold FT
 rw [List.filterMap_cons]
 unfold G4
 cases hw:KY r A B t.Row t.Col with
 | none=>simp [dJ]
 | some w=>
  simp only [Option.map_some,EE]
  rfl
theorem MY {r:Int} {k:HO} {A B:List A3}:∀ {M:List A3},(∀ t∈M,(t.Row,t.Col)≠k)→EE r k (FT r A B M)=none
 | [],_=>rfl
 | t :: M,h=>by rw [WQ,if_neg (h t (by simp)),MY fun u D=>h u (List.mem_cons_of_mem _ D)]; rfl
theorem iZ {r:Int} {k:HO} {A B J O G U:List A3}:∀ {M:List A3},Srt M→(∀ t∈M,KY r A B t.Row t.Col=dJ r (KY r J O t.Row t.Col) (KY r G U t.Row t.Col)) →
  EE r k (FT r A B M)=dJ r (EE r k (FT r J O M)) (EE r k (FT r G U M))
 | [],_,_=>rfl
 | t :: M,hs,h=>by
  unfold Srt at hs
  rw [List.pairwise_cons] at hs
  rw [WQ,WQ,WQ]
  by_cases e:(t.Row,t.Col)=k
  · have hn:∀ u∈M,(u.Row,u.Col)≠k:=fun u D V=>by
     have:=hs.1 u D
     unfold key at this
     rw [e,V] at this
     exact EH _ this
    rw [if_pos e,if_pos e,if_pos e,MY hn,MY hn,MY hn,KW,KW,KW]
    exact h t (by simp)
  · rw [if_neg e,if_neg e,if_neg e]
    exact iZ hs.2 fun u D=>h u (List.mem_cons_of_mem _ D)
theorem NV {r:Int} {A B M:List A3} {D cm:Int} (G:Canon D cm M):StrC (FT r A B M)∧VA (FT r A B M)∧(FT r A B M).length≤65536:=by
 have h:=dW (r:=r) (ra:=0) (ca:=0) (rb:=0) (cb:=0) (A:=A) (B:=B) G
 exact ⟨h.inc,h.ok,h.len⟩
theorem fI {x y:AB} {Q:Bool→Prop} (G:SJ x y→Q true) (D:¬SJ x y→Q false):JS x y Q:=by
 unfold JS
 unfold SJ MF at G D
 simp only at G D
 refine A0 (fun h=>G (.inl h)) (fun h=>BA (fun J=>?_) (fun J=>D (by omega)))
 by_cases c:x.Col<y.Col
 · rw [decide_eq_true c]; exact G (.inr ⟨J,c⟩)
 · rw [decide_eq_false c]; exact D (by omega)
theorem lS {l:List AB} {Q:Bool→Prop} (hl:l.length≤1000000) (J:StrC l→Q true) (W:¬StrC l→Q false):JT l Q:=by
 unfold JT
 by_cases h0:l.length=0
 · refine ⟨1,?_⟩
   exact A0 (fun h=>by omega) (fun _=>J (lR fun j D=>by omega))
 refine B2 (σ:=Unit) (fun _ i=>i) 1 l.length (by omega) (fun i _=>∀ (j:Nat) (J:j+1<l.length),j+1<i→SJ l[j] l[j+1]) (by omega) (fun j _ h=>by omega) (fun i s next h3 hi G O=>?_) (fun s next G=>?_) (s0:=())
 · refine A0 (fun _=>?_) (fun h=>by omega)
   obtain ⟨i,rfl⟩:∃ q,i=q+1:=⟨i - 1,by omega⟩
   rw [TU (by omega) (by omega),Nat.add_sub_cancel]
   refine AK (by omega) (AK hi (fI (fun h=>AC rfl (O () fun j D U=>?_)) (fun h=>AY rfl (W fun V=>h (List.pairwise_iff_getElem.1 V i (i+1) (by omega) hi (by omega))))))
   by_cases e:j=i
   · subst e; exact h
   · exact G j D (by omega)
 · exact A0 (fun h=>by omega) (fun _=>J (lR fun j D=>G j D D))
def AcV (r:Int) (s:List AB) (x:AB) (t:List AB):Prop:=StrC t∧VA t∧t.length≤s.length+1∧∀ k,EE r k t=EE r k (s++[x])
theorem AbA {r:Int} {p q:List AB} {y x:AB} (G:StrC (p++y :: q)) (U:VA (p++y :: q)) (V:LI x.Val) (hk:GP y=GP x):AcV r (p++y :: q) x (p ++ ⟨y.Row,y.Col,F6 r y.Val x.Val⟩ :: q):=by
 have hp:VA p:=fun c D=>U c (by simp [D])
 have hy:LI y.Val:=U y (by simp)
 have Y:VA q:=fun c D=>U c (by simp [D])
 have O:VA (y :: q):=fun c D=>U c (by simp at D ⊢; exact .inr D)
 have hw:LI (F6 r y.Val x.Val):=QK hy V
 have J:VA [x]:=fun c D=>by rw [List.mem_singleton] at D; subst D; exact V
 have W:VA (⟨y.Row,y.Col,F6 r y.Val x.Val⟩ :: q):=fun c D=>by
   rcases List.mem_cons.1 D with rfl | h
   · exact hw
   · exact Y c h
 refine ⟨?_,fun c D=>?_,by simp,fun k=>?_⟩
 · unfold StrC at G ⊢
   rw [List.pairwise_append,List.pairwise_cons] at G ⊢
   refine ⟨G.1,⟨fun a Z=>G.2.1.1 a Z,G.2.1.2⟩,fun a Z b hb=>?_⟩
   rcases List.mem_cons.1 hb with rfl | h
   · exact G.2.2 a Z y (by simp)
   · exact G.2.2 a Z b (by simp [h])
 · rcases List.mem_append.1 D with h | h
   · exact hp c h
   · exact W c h
 · rw [FK U J,FK hp W,FK hp O,M8 (LK hp) (LK O) (LK J)]
   congr 1
   have e1:EE r k [x]=gX k x:=by rw [EE,EE,KW]
   rw [EE,EE,e1,M8 (S7 hy) (LK Y) (S7 V),oH (LK Y) (S7 V),←M8 (S7 hy) (S7 V) (LK Y)]
   congr 1
   unfold gX
   by_cases ek:GP y=k
   · rw [if_pos (show GP ⟨y.Row,y.Col,F6 r y.Val x.Val⟩=k from ek),if_pos ek,if_pos (hk.symm.trans ek)]; rfl
   · rw [if_neg (show ¬GP ⟨y.Row,y.Col,F6 r y.Val x.Val⟩=k from ek),if_neg ek,if_neg (fun h=>ek (hk.trans h))]; rfl
theorem yX {r:Int} {p q:List AB} {x:AB} (G:StrC (p++q)) (O:VA (p++q)) (Y:LI x.Val) (Z:∀ c∈p,SJ c x) (W:∀ c∈q,SJ x c):AcV r (p++q) x (p++x :: q):=by
 have D:VA (p++x :: q):=fun c V=>by
   rcases List.mem_append.1 V with h | h
   · exact O c (by simp [h])
   · rcases List.mem_cons.1 h with rfl | h
     · exact Y
     · exact O c (by simp [h])
 refine ⟨?_,D,by simp; omega,fun k=>fG ?_ D⟩
 · unfold StrC at G ⊢
   rw [List.pairwise_append] at G ⊢
   rw [List.pairwise_cons]
   refine ⟨G.1,⟨W,G.2.1⟩,fun a J b U=>?_⟩
   rcases List.mem_cons.1 U with rfl | h
   · exact Z a J
   · exact G.2.2 a J b h
 · have:(p++x :: q).Perm (x :: (p++q)):=List.perm_middle
   refine this.trans ?_
   have h:=(List.perm_append_comm (l₁:=[x]) (l₂:=p++q))
   exact h
theorem ZP {r:Int} {L:List (List AB)} {Q:List AB×Int→Prop} (hl:L.length≤1000000) (hf:L.flatten.length≤1000000) (hok:VA L.flatten) (h8:¬(1≤r∧r≤5)→Q ([],8)) (h6:(1≤r∧r≤5)→¬(∀ l∈L,StrC l)→Q ([],6))
   (h0:(1≤r∧r≤5)→(∀ l∈L,StrC l)→∀ s,StrC s→VA s→s.length≤L.flatten.length→(∀ k,EE r k s=EE r k L.flatten)→Q (s,0)):HU r L Q:=by
 unfold HU
 refine M5 (CF (fun h=>h8 (of_decide_eq_false h)) (fun h=>?_))
 have hr:=of_decide_eq_true h
 have elen:∀ l∈L,l.length≤1000000:=fun l D=>by
   have:=(List.sublist_flatten_of_mem D).length_le
   omega
 refine D7 L.length (by omega) (fun i=>∀ (q:Nat) (W:q<L.length),q<i→StrC L[q]) (fun q _ h=>by omega) (fun i next hi D hn=>?_) (fun next D=>?_)
 · refine A0 (fun _=>AK hi (lS (elen _ (List.getElem_mem hi)) (fun hs=>AC rfl (hn fun q W hqi=>?_)) (fun hs=>AY rfl (h6 hr fun Y=>hs (Y _ (List.getElem_mem hi)))))) (fun h=>by omega)
   by_cases e:q=i
   · subst e; exact hs
   · exact D q W (by omega)
 refine A0 (fun h=>by omega) (fun _=>?_)
 have hall:∀ l∈L,StrC l:=fun l hm'=>by obtain ⟨q,W,rfl⟩:=List.getElem_of_mem hm'; exact D q W W
 have hfin:=h0 hr hall
 clear h8 h6 h0 D
 have tk:∀ {i:Nat} (h:i<L.length),(L.take (i+1)).flatten=(L.take i).flatten++L[i]:=fun h=>by rw [List.take_succ_eq_append_getElem h,List.flatten_append]; simp
 have tl:∀ i:Nat,(L.take i).flatten.length≤L.flatten.length:=fun i=>by
   conv=>rhs; rw [←List.take_append_drop i L,List.flatten_append,List.length_append]
   omega
 have tok:∀ i:Nat,VA (L.take i).flatten:=fun i c J=>hok c (by
   rw [←List.take_append_drop i L,List.flatten_append]; simp only [List.mem_append]; exact .inl J)
 refine B2 (fun (s:List AB) i=>(s,i)) 0 L.length (by omega) (fun i s=>StrC s∧VA s∧s.length≤(L.take i).flatten.length∧∀ k,EE r k s=EE r k (L.take i).flatten) (by omega) ⟨.nil,(fun c J=>by cases J),by simp,fun k=>by simp⟩ (fun i s next _ hi D hn=>?_) (fun s next D=>?_)
 · obtain ⟨m1,m2,m3,m4⟩:=D
   have U:=tk hi
   have hti:=tl (i+1)
   rw [U,List.length_append] at hti
   have Z:VA L[i]:=fun c J=>tok (i+1) c (by rw [U]; simp [J])
   have hoi:=tok i
   refine A0 (fun _=>?_) (fun h=>by omega)
   refine B2 (fun (s:List AB) q=>(s,q)) 0 L[i].length (by omega) (fun q s=>StrC s∧VA s∧s.length≤(L.take i).flatten.length+q∧∀ k,EE r k s=EE r k ((L.take i).flatten++L[i].take q)) (by omega) ⟨m1,m2,m3,fun k=>by rw [m4]; simp⟩ (fun q s nx _ W D hx=>?_) (fun s nx D=>?_)
   · obtain ⟨g1,g2,g3,g4⟩:=D
     have O:LI (L[i][q]).Val:=Z _ (List.getElem_mem W)
     have hotq:VA ((L.take i).flatten++L[i].take q):=fun c J=>by
       rcases List.mem_append.1 J with h | h
       · exact hoi c h
       · exact Z c (List.mem_of_mem_take h)
     have hx1:VA [L[i][q]]:=fun c J=>by rw [List.mem_singleton] at J; subst J; exact O
     have go:∀ t,AcV r s L[i][q] t→nx (t,A7 ((q:Int)+1)):=fun t ht=>hx t ⟨ht.1,ht.2.1,by have:=ht.2.2.1; omega,fun k=>by
       rw [ht.2.2.2,List.take_succ_eq_append_getElem W,←List.append_assoc,FK g2 hx1,FK hotq hx1,g4]⟩
     refine AK hi (A0 (fun _=>AK hi (AK W ?_)) (fun h=>by omega))
     generalize L[i][q]=x at O go
     refine CJ (fun t:Int=>∃ j:Nat,t=j∧j≤s.length∧(∀ (p:Nat) (hp:p<s.length),p<j→SJ s[p] x)∧∀ h:j<s.length,¬SJ s[j] x) (fun t ht=>?_) fun k hk=>?_
     · obtain ⟨j,rfl,j1,j2,j3⟩:=ht
       have hlow:∀ c∈s.take j,SJ c x:=fun c J=>by
         obtain ⟨p,hp,rfl⟩:=List.getElem_of_mem J
         rw [List.length_take] at hp
         rw [List.getElem_take]
         exact j2 p (by omega) (by omega)
       refine CJ (fun b:Bool=>(b=true→∃ h:j<s.length,GP s[j]=GP x)∧(b=false→∀ h:j<s.length,SJ x s[j])) (fun b hb=>?_) fun k hk=>?_
       · cases b with
         | true=>
           obtain ⟨V,hkey⟩:=hb.1 rfl
           refine AY rfl (AK V (TL (g2 _ (List.getElem_mem V)) O (AK V ?_)))
           have es:s=s.take j++s[j] :: s.drop (j+1):=by rw [←List.drop_eq_getElem_cons V,List.take_append_drop]
           have G:=AbA (r:=r) (p:=s.take j) (q:=s.drop (j+1)) (y:=s[j]) (x:=x) (by rw [←es]; exact g1) (by rw [←es]; exact g2) O hkey
           rw [←es] at G
           have e2:s.set ((j:Nat):Int).toNat (⟨s[j].Row,s[j].Col,F6 r s[j].Val x.Val⟩:AB)=s.take j ++ ⟨s[j].Row,s[j].Col,F6 r s[j].Val x.Val⟩ :: s.drop (j+1):=by
             rw [Int.toNat_natCast,List.set_eq_take_append_cons_drop,if_pos V]
           rw [e2]
           exact go _ G
         | false=>
           have hnot:=hb.2 rfl
           refine AC rfl (AR (by simp; omega) ?_)
           have hhigh:∀ c∈s.drop j,SJ x c:=fun c J=>by
             obtain ⟨p,hp,rfl⟩:=List.getElem_of_mem J
             rw [List.length_drop] at hp
             rw [List.getElem_drop]
             have h1:=hnot (by omega)
             by_cases e:p=0
             · subst e; exact h1
             · exact IM h1 (List.pairwise_iff_getElem.1 g1 j (j+p) (by omega) (by omega) (by omega))
           have G:=yX (r:=r) (p:=s.take j) (q:=s.drop j) (x:=x) (by rw [List.take_append_drop]; exact g1) (by rw [List.take_append_drop]; exact g2) O hlow hhigh
           rw [List.take_append_drop] at G
           have e1:A7 ((((s++[(⟨0,0,⟨0,0⟩⟩:AB)]).length:Nat):Int) - 1)=((s.length:Nat):Int):=by
             rw [List.length_append,List.length_singleton,TU (by omega) (by omega),Nat.add_sub_cancel]
           rw [e1]
           refine DE (fun st:List AB×Int=>∃ m:Nat,st.2=m∧j≤m∧m≤s.length∧st.1.length=s.length+1∧(∀ a,a<m→st.1[a]? = s[a]?)∧∀ a,m≤a→a<s.length→st.1[a+1]? = s[a]?) (fun st=>st.2.toNat)
             ⟨s.length,rfl,j1,Nat.le_refl _,by simp,fun a Y=>by dsimp only; rw [List.getElem?_append_left Y],fun a h1 h2=>by omega⟩ ?_
           rintro ⟨v,_⟩ ny ⟨m,rfl,k1,k2,k3,k4,k5⟩ hy
           dsimp only at k3 k4 k5 ⊢
           refine A0 (fun hjm=>?_) (fun hjm=>?_)
           · rw [TU (i:=m) (by omega) (by omega)]
             refine AK (i:=m - 1) (by omega) (AK (i:=m) (by omega) (hy _ ⟨m - 1,rfl,by omega,by omega,by simpa using k3,fun a Y=>?_,fun a h1 h2=>?_⟩ (by dsimp only; omega)))
             · dsimp only
               rw [Int.toNat_natCast,List.getElem?_set_ne (by omega)]; exact k4 a (by omega)
             · dsimp only
               rw [Int.toNat_natCast,List.getElem?_set]
               by_cases e:a=m - 1
               · subst e
                 rw [if_pos (by omega),if_pos (by omega),←k4 (m - 1) (by omega),List.getElem?_eq_getElem (by omega)]
               · rw [if_neg (by omega)]; exact k5 a (by omega) h2
           · have hjm':m=j:=by omega
             subst hjm'
             refine AK (i:=m) (by omega) ?_
             have:=Y4 (pre:=s.take m) (post:=s.drop m) (s:=v) (x:=x) (by rw [List.length_take,List.length_drop]; omega) (fun a Y=>?_) (fun a Y=>?_)
             · rw [List.length_take,Nat.min_eq_left k2] at this
               rw [Int.toNat_natCast,this]
               exact go _ G
             · rw [List.length_take] at Y
               rw [k4 a (by omega),List.getElem?_take,if_pos (by omega)]
             · rw [List.length_drop] at Y
               rw [List.length_take,Nat.min_eq_left k2,show m+1+a=m+a+1 by omega,k5 (m+a) (by omega) (by omega),List.getElem?_drop]
       · refine A0 (fun V=>?_) (fun V=>hk _ ⟨(fun h=>by cases h),fun _ h=>by omega⟩)
         have hj':j<s.length:=by omega
         refine AK hj' (fI (fun h=>hk _ ⟨(fun h=>by cases h),fun _ _=>h⟩) (fun h=>hk _ ⟨fun _=>⟨hj',?_⟩,fun h=>by cases h⟩))
         have h3:=j3 hj'
         by_cases e:GP s[j]=GP x
         · exact e
         · exact absurd (ZE (a:=GP s[j]) (b:=GP x) h3 e) h
     · refine D7 s.length (by omega) (fun j=>∀ (p:Nat) (hp:p<s.length),p<j→SJ s[p] x) (fun p _ h=>by omega) (fun j ny V D hy=>?_) (fun ny D=>?_)
       · refine A0 (fun _=>AK V (fI (fun h=>AY rfl (hy fun p hp hpj=>?_)) (fun h=>AC rfl (hk _ ⟨j,rfl,by omega,D,fun _=>h⟩)))) (fun h=>by omega)
         by_cases e:p=j
         · subst e; exact h
         · exact D p hp (by omega)
       · exact A0 (fun h=>by omega) (fun _=>hk _ ⟨s.length,rfl,Nat.le_refl _,fun p hp _=>D p hp hp,fun h=>by omega⟩)
   · obtain ⟨g1,g2,g3,g4⟩:=D
     refine AK hi (A0 (fun h=>by omega) (fun _=>hn _ ⟨g1,g2,by rw [U,List.length_append]; exact g3,fun k=>?_⟩))
     rw [g4,U,List.take_length]
 · obtain ⟨m1,m2,m3,m4⟩:=D
   rw [List.take_length] at m3
   refine A0 (fun h=>by omega) (fun _=>hfin s m1 m2 m3 fun k=>?_)
   rw [m4,List.take_length]
def PE (n k:Int):Prop:=(0≤n∧n≤4096)∧(1≤k∧k≤8)
instance (n k:Int):Decidable (PE n k):=by unfold PE; infer_instance
def jA (i k:Int):Int:=if i<0 then 0 else if k<i then k else i
def BS (n k i:Int):Int:=if PE n k then jA i k*n / k else 0
theorem Ac8 {i k:Int} (h:1≤k):0≤jA i k∧jA i k≤k:=by unfold jA; split <;> (try split) <;> omega
theorem yY {i j k:Int} (h:i≤j) (hk:1≤k):jA i k≤jA j k:=by unfold jA; split <;> split <;> (try split) <;> (try split) <;> omega
theorem Ac9 {i k n:Int} (hk:1≤k∧k≤8) (h:0≤n∧n≤4096) (hi:0≤i∧i≤k):0≤i*n∧i*n≤32768:=by
 refine ⟨Int.mul_nonneg hi.1 h.1,?_⟩
 have:=Int.mul_le_mul (show i≤8 by omega) h.2 h.1 (by omega)
 omega
theorem MZ {n k i j:Int} (h:i≤j):BS n k i≤BS n k j:=by
 unfold BS
 by_cases hm:PE n k
 · rw [if_pos hm,if_pos hm]
   exact Int.ediv_le_ediv (by have:=hm.2; omega) (Int.mul_le_mul_of_nonneg_right (yY h hm.2.1) hm.1.1)
 · rw [if_neg hm,if_neg hm]; exact Int.le_refl _
theorem fJ (n k:Int):BS n k 0=0:=by
 unfold BS jA; split
 · rename_i h
   have h1:=h.2.1
   rw [if_neg (by omega),if_neg (by omega),Int.zero_mul,Int.zero_ediv]
 · rfl
theorem TV {n k:Int} (h:PE n k):BS n k k=n:=by
 unfold BS jA
 have h1:=h.2.1
 rw [if_pos h,if_neg (by omega),if_neg (by omega),Int.mul_comm,Int.mul_ediv_cancel _ (by omega)]
theorem AbB {n k i:Int} (h:i≤0):BS n k i=0:=by
 by_cases e:i=0
 · subst e; exact fJ n k
 · unfold BS jA; split
   · rw [if_pos (by omega),Int.zero_mul,Int.zero_ediv]
   · rfl
theorem jB {n k i:Int}:0≤BS n k i∧(0≤n→BS n k i≤n):=by
 by_cases hm:PE n k
 · have D:=Ac8 (i:=i) hm.2.1
   refine ⟨?_,fun _=>?_⟩
   · unfold BS; rw [if_pos hm]; exact Int.ediv_nonneg (Int.mul_nonneg D.1 hm.1.1) (by have:=hm.2; omega)
   · by_cases hi:i≤k
     · have:=MZ (n:=n) hi (k:=k); rwa [TV hm] at this
     · have h1:=hm.2.1
       have e:BS n k i=n:=by
        unfold BS jA
        rw [if_pos hm,if_neg (by omega),if_pos (by omega),Int.mul_comm,Int.mul_ediv_cancel _ (by omega)]
       omega
 · unfold BS; rw [if_neg hm]; exact ⟨by omega,fun h=>h⟩
theorem VB {p q r:α→Bool}:∀ {l:List α},(∀ x∈l,r x=(p x || q x))→(∀ x∈l,¬(p x=true∧q x=true))→(l.filter p++l.filter q).Perm (l.filter r)
 | [],_,_=>by simp
 | x :: l,h,h'=>by
  have ih:=VB (fun y G=>h y (List.mem_cons_of_mem _ G)) (fun y G=>h' y (List.mem_cons_of_mem _ G))
  have D:=h x List.mem_cons_self
  have J:=h' x List.mem_cons_self
  cases hp:p x with
  | true=>
   cases hq:q x with
   | true=>exact absurd ⟨hp,hq⟩ J
   | false=>
    rw [List.filter_cons_of_pos hp,List.filter_cons_of_neg (by simp [hq]),List.filter_cons_of_pos (by rw [D,hp]; rfl)]
    exact ih.cons x
  | false=>
   cases hq:q x with
   | true=>
    rw [List.filter_cons_of_neg (by simp [hp]),List.filter_cons_of_pos hq,List.filter_cons_of_pos (by rw [D,hp,hq]; rfl)]
    exact List.perm_middle.trans (ih.cons x)
   | false=>
    rw [List.filter_cons_of_neg (by simp [hp]),List.filter_cons_of_neg (by simp [hq]),List.filter_cons_of_neg (by rw [D,hp,hq]; simp)]
    exact ih
theorem VC {f:α→Int} {b:Nat→Int} {l:List α} (G:∀ i j,i≤j→b i≤b j) (D:∀ x∈l,b 0≤f x):∀ m:Nat,
  ((List.range m).flatMap fun i=>l.filter fun x=>decide (b i≤f x∧f x<b (i+1))).Perm (l.filter fun x=>decide (f x<b m))
 | 0=>by
  rw [List.filter_eq_nil_iff.2 (fun x h=>by have:=D x h; simp only [decide_eq_true_eq]; omega)]; simp
 | m+1=>by
  rw [List.range_succ,List.flatMap_append,List.flatMap_singleton]
  refine ((VC G D m).append_right _).trans (VB (fun x h=>?_) (fun x h=>?_))
  · have:=G m (m+1) (by omega)
    rw [Bool.eq_iff_iff]
    simp only [Bool.or_eq_true,decide_eq_true_eq]; omega
  · simp only [decide_eq_true_eq]; omega
theorem ZQ {f g:α→List β}:∀ {l:List α},(∀ x∈l,(f x).Perm (g x))→(l.flatMap f).Perm (l.flatMap g)
 | [],_=>by simp
 | x :: l,h=>by
  rw [List.flatMap_cons,List.flatMap_cons]
  exact (h x List.mem_cons_self).append (ZQ fun y D=>h y (List.mem_cons_of_mem _ D))
theorem N0 {f g:α→List β} {l:List α} (h:∀ x∈l,f x=g x):l.flatMap f=l.flatMap g:=by
 induction l with
 | nil=>rfl
 | cons x l G=>rw [List.flatMap_cons,List.flatMap_cons,h x List.mem_cons_self,G fun y D=>h y (List.mem_cons_of_mem _ D)]
theorem bT {q:Nat} (D:0<q) (F:Nat→Nat→List β):∀ p:Nat,((List.range (p*q)).flatMap fun k=>F (k / q) (k % q))=(List.range p).flatMap fun i=>(List.range q).flatMap fun j=>F i j
 | 0=>by simp
 | p+1=>by
  rw [Nat.succ_mul,List.range_add,List.flatMap_append,bT D F p,List.range_succ,List.flatMap_append,List.flatMap_singleton,List.flatMap_map]
  congr 1
  refine N0 fun j h=>?_
  have h:=List.mem_range.1 h
  rw [Nat.mul_comm p q,Nat.mul_add_div D,Nat.div_eq_of_lt h,Nat.mul_add_mod,Nat.mod_eq_of_lt h,Nat.add_zero]
def shT (a b:Int) (t:A3):A3:=⟨t.Row+a,t.Col+b,t.Val⟩
theorem yZ {l h c d:Int} {T:List A3}:(HI l h c d T).map (shT l c)=T.filter fun t=>decide ((l≤t.Row∧t.Row<h)∧(c≤t.Col∧t.Col<d)):=by
 unfold HI
 rw [List.map_map]
 conv=>rhs; rw [←List.map_id (List.filter _ T)]
 refine List.map_congr_left fun t _=>?_
 cases t; simp only [Function.comp_apply,shT,id_eq,A3.mk.injEq]; exact ⟨by omega,by omega,trivial⟩
theorem cS {rows cols:Int} {T:List A3} (h:Canon rows cols T) {p q:Nat} (hp:PE rows p) (O:PE cols q) :
  ((List.range p).flatMap fun i:Nat=>(List.range q).flatMap fun j:Nat=>(HI (BS rows p i) (BS rows p ((i:Int)+1)) (BS cols q j) (BS cols q ((j:Int)+1)) T).map (shT (BS rows p i) (BS cols q j))).Perm T:=by
 have e:∀ i:Nat,((List.range q).flatMap fun j:Nat=>(HI (BS rows p i) (BS rows p ((i:Int)+1)) (BS cols q j) (BS cols q ((j:Int)+1)) T).map (shT (BS rows p i) (BS cols q j))).Perm (T.filter fun t=>decide (BS rows p i≤t.Row∧t.Row<BS rows p ((i:Int)+1))):=by
  intro i
  have J:=VC (f:=fun t:A3=>t.Col) (b:=fun j:Nat=>BS cols q j) (l:=T.filter fun t=>decide (BS rows p i≤t.Row∧t.Row<BS rows p ((i:Int)+1))) (fun i j G=>MZ (by omega)) (fun t D=>by
    have:=(h.inn t (List.mem_filter.1 D).1).2.2.1
    simp only [Int.natCast_zero]; rw [fJ]; exact this) q
  refine List.Perm.trans (List.Perm.of_eq (N0 fun j _=>?_)) (J.trans (List.Perm.of_eq ?_))
  · rw [yZ,List.filter_filter]
    refine List.filter_congr fun t _=>?_
    rw [Bool.eq_iff_iff]
    simp only [Bool.and_eq_true,decide_eq_true_eq,Int.natCast_add,Int.natCast_one]
    exact ⟨fun h=>⟨h.2,h.1⟩,fun h=>⟨h.2,h.1⟩⟩
  · refine List.filter_eq_self.2 fun t D=>?_
    have:=(h.inn t (List.mem_filter.1 D).1).2.2.2
    rw [TV O]; simpa using this
 refine (ZQ fun i _=>e i).trans ?_
 have J:=VC (f:=fun t:A3=>t.Row) (b:=fun j:Nat=>BS rows p j) (l:=T) (fun i j G=>MZ (by omega)) (fun t D=>by
  have:=(h.inn t D).1
  simp only [Int.natCast_zero]; rw [fJ]; exact this) p
 refine J.trans (List.Perm.of_eq ?_)
 refine List.filter_eq_self.2 fun t D=>?_
 have:=(h.inn t D).2.1
 rw [TV hp]; simpa using this
end Go.Proofs.YtbohadngdkjljaaGreat
