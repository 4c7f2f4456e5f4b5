import Derived.Test.YtbohadngdkjljaaGreatStabC
namespace Go.Proofs.YtbohadngdkjljaaGreat
open Go Go.Fw
set_option linter.unusedVariables false
set_option linter.unusedSimpArgs false
variable {α β:Type}
def GO (c:AB):HN:=(c.Row,c.Col)
def iC (k:HN) (c:AB):Option AL:=if GO c=k then some c.Val else none
def EB (r:Int) (k:HN):List AB→Option AL
 | []=>none
 | c :: l=>dU r (iC k c) (EB r k l)
def VO (l:List AB):Prop:=∀ c∈l,LG c.Val
def StrC (l:List AB):Prop:=l.Pairwise SR
theorem SE {k:HN} {c:AB} (h:LG c.Val):yI (iC k c):=fun w D=>by unfold iC at D; split at D <;> cases D; exact h
theorem Ab3 {r:Int} {a b:Option AL} (G:yI a) (D:yI b):yI (dU r a b):=by
 intro w h
 cases a with
 | none=>exact D w h
 | some x=>cases b with
  | none=>exact G w h
  | some y=>cases h; exact QL (G x rfl) (D y rfl)
theorem LI {r:Int} {k:HN}:∀ {l:List AB},VO l→yI (EB r k l)
 | [],_=>fun w D=>by cases D
 | c :: l,h=>Ab3 (SE (h c (by simp))) (LI fun d G=>h d (List.mem_cons_of_mem _ G))
theorem FH {r:Int} {k:HN}:∀ {xs ys:List AB},VO xs→VO ys→EB r k (xs++ys)=dU r (EB r k xs) (EB r k ys)
 | [],ys,_,_=>rfl
 | c :: l,ys,h,h'=>by
  have hl:VO l:=fun d D=>h d (List.mem_cons_of_mem _ D)
  rw [List.cons_append,EB,EB,FH hl h',M3 (SE (h c (by simp))) (LI hl) (LI h')]
theorem oV {xs ys:List AB} (h:xs.Perm ys) (D:VO xs):VO ys:=fun c G=>D c (h.mem_iff.2 G)
theorem fQ {r:Int} {k:HN} {xs ys:List AB} (h:xs.Perm ys) (D:VO xs):EB r k xs=EB r k ys:=by
 induction h with
 | nil=>rfl
 | cons c h Y=>rw [EB,EB,Y fun d V=>D d (List.mem_cons_of_mem _ V)]
 | swap a b l=>
  have G:=SE (k:=k) (D a (by simp))
  have J:=SE (k:=k) (D b (by simp))
  have W:=LI (r:=r) (k:=k) (l:=l) fun d V=>D d (by simp [V])
  rw [EB,EB,EB,EB,←M3 J G W,←M3 G J W,oN G J]
 | trans G J O U=>exact (O D).trans (U (oV G D))
theorem oW {r:Int} {k:HN}:∀ {l:List AB},(∀ c∈l,GO c≠k)→EB r k l=none
 | [],_=>rfl
 | c :: l,h=>by
  rw [EB,oW fun d D=>h d (List.mem_cons_of_mem _ D)]
  unfold iC
  rw [if_neg (h c (by simp))]; rfl
theorem rL {a b:AB} (h:SR a b):GO a≠GO b:=fun e=>by unfold SR at h; unfold GO at e; rw [e] at h; exact EE _ h
theorem lT {r:Int}:∀ {l:List AB},StrC l→∀ {c:AB},c∈l↔EB r (GO c) l=some c.Val
 | [],_,c=>by simp [EB]
 | d :: l,h,c=>by
  unfold StrC at h
  rw [List.pairwise_cons] at h
  rw [EB,List.mem_cons]
  by_cases e:GO d=GO c
  · rw [oW (fun x J=>by rw [←e]; exact (rL (h.1 x J)).symm)]
    unfold iC
    rw [if_pos e,KW]
    constructor
    · rintro (rfl | D)
      · rfl
      · exact absurd e (rL (h.1 c D))
    · intro G
      left
      have hv':=Option.some.inj G
      clear G
      unfold GO at e
      cases c; cases d
      simp only [Prod.mk.injEq] at e hv'
      obtain ⟨rfl,rfl⟩:=e
      rw [hv']
  · unfold iC
    rw [if_neg e]
    show _↔EB r (GO c) l=some c.Val
    rw [←lT h.2]
    constructor
    · rintro (rfl | D)
      · exact absurd rfl e
      · exact D
    · exact .inr
theorem StrC.nodup {l:List AB} (h:StrC l):l.Nodup:=by
 rw [List.nodup_iff_pairwise_ne]
 exact List.Pairwise.imp (R:=SR) (fun {a b} D (e:a=b)=>rL D (by rw [e])) h
theorem fR {r:Int} {s t:List AB} (G:StrC s) (D:StrC t) (h:∀ k,EB r k s=EB r k t):s=t:=
 bQ ((List.perm_ext_iff_of_nodup G.nodup D.nodup).2 fun c=>by rw [lT (r:=r) G,lT (r:=r) D,h]) G D fun a b _ _ J O=>absurd (IL J O) (EE _)
theorem lU {l:List AB} (h:∀ (j:Nat) (h1:j+1<l.length),SR l[j] l[j+1]):StrC l:=by
 unfold StrC
 rw [List.pairwise_iff_getElem]
 intro i j hi G D
 obtain ⟨d,rfl⟩:∃ d,j=i+1+d:=⟨j - i - 1,by omega⟩
 clear D
 induction d with
 | zero=>exact h i G
 | succ d J=>exact IL (J (by omega)) (h (i+1+d) G)
theorem iD {l:List AB} {Q:Bool→Prop} (hl:l.length≤1000000) (J:StrC l→Q true) (W:¬StrC l→Q false):JO l Q:=by
 unfold JO
 refine DF l.length (by omega) (fun i=>∀ (j:Nat) (J:j+1<l.length),j+1<i→SR l[j] l[j+1]) (fun j _ h=>by omega) (fun i next hi G O=>?_) (fun next G=>?_)
 · refine A0 (fun _=>A0 (fun hp=>?_) (fun hp=>O fun j _ h=>by omega)) (fun h=>by omega)
   obtain ⟨i,rfl⟩:∃ q,i=q+1:=⟨i - 1,by omega⟩
   rw [U3 (by omega) (by omega),Nat.add_sub_cancel]
   refine AJ (by omega) (AJ hi (SD (A0 (fun V=>W fun U=>?_) (fun V=>O fun j D h=>?_))))
   · have:=(S1 l[i] l[i+1]).2 (List.pairwise_iff_getElem.1 U i (i+1) (by omega) hi (by omega))
     omega
   · by_cases e:j=i
     · subst e; exact (S1 l[j] l[j+1]).1 (by omega)
     · exact G j D (by omega)
 · exact A0 (fun h=>by omega) (fun _=>J (lU fun j D=>G j D D))
theorem oX {x y:AB}:uU (QK x.Row y.Row) (QK x.Col y.Col)=0↔GO x=GO y:=by
 unfold uU QK GO
 simp only [Prod.mk.injEq]
 split <;> split <;> (try split) <;> (try split) <;> omega
theorem rM {L:List (List AB)} {Q:List AB→Prop} (hl:L.length≤1000000) (hf:L.flatten.length≤100000000) (Z:Q L.flatten):D9 L Q:=by
 unfold D9 EW
 have Y:∀ {i:Nat} (h:i<L.length),(L.take (i+1)).flatten=(L.take i).flatten++L[i]:=fun h=>by rw [List.take_succ_eq_append_getElem h,List.flatten_append]; simp
 have W:∀ i:Nat,(L.take i).flatten.length≤L.flatten.length:=fun i=>by
   conv=>rhs; rw [←List.take_append_drop i L,List.flatten_append,List.length_append]
   omega
 refine B3 (fun (s:Int) i=>(s,i)) 0 L.length (by omega) (fun i s=>s=((L.take i).flatten.length:Nat)) (by omega) rfl (fun i s next _ hi J V=>?_) (fun s next J=>?_)
 · subst J
   have U:=W (i+1)
   have O:=Y hi
   rw [O,List.length_append] at U
   refine A0 (fun _=>AJ hi ?_) (fun h=>by omega)
   rw [ZY (by omega) (by omega)]
   exact A0 (fun h=>by omega) (fun _=>V _ (by rw [O,List.length_append]))
 · subst J
   refine A0 (fun h=>by omega) (fun _=>?_)
   rw [List.take_length,AH (x:=0 - 0) (by omega) (by omega),AH (x:=((L.flatten.length:Nat):Int) - (0 - 0)) (by omega) (by omega)]
   have hk:B2 (fun (s:(List AB)×Int) (D:((List AB)×Int)→Prop)=>match s with | (s266,s270)=>AD (decide (s270<(L.length:Int))) (AN L s270 fun G=>EA 32 s266 G fun _=>D ((s266++G),A7 (s270+1))) (Q s266)) ([],0):=by
    refine B3 (fun (s:List AB) i=>(s,i)) 0 L.length (by omega) (fun i s=>s=(L.take i).flatten) (by omega) rfl (fun i s next _ hi J V=>?_) (fun s next J=>?_)
    · subst J
      have U:=W (i+1)
      have O:=Y hi
      rw [O,List.length_append] at U
      refine A0 (fun _=>AJ hi (AQ (by omega) (V _ O.symm))) (fun h=>by omega)
    · subst J
      refine A0 (fun h=>by omega) (fun _=>?_)
      rw [List.take_length]; exact Z
   exact A0 (fun h=>by omega) (fun _=>A0 (fun h=>⟨by omega,by omega,hk⟩) (fun h=>hk))
theorem iE {r:Int} {L:List (List AB)} {Q:List AB×Int→Prop} (hl:L.length≤1000000) (hf:L.flatten.length≤1000000) (hok:VO L.flatten) (h8:¬(1≤r∧r≤5)→Q ([],8)) (h6:(1≤r∧r≤5)→¬(∀ l∈L,StrC l)→Q ([],6))
   (h0:(1≤r∧r≤5)→(∀ l∈L,StrC l)→∀ s,StrC s→VO s→s.length≤L.flatten.length→(∀ k,EB r k s=EB r k L.flatten)→Q (s,0)):NG r L Q:=by
 unfold NG
 refine JX (BN (fun h=>h8 (of_decide_eq_false h)) (fun h=>?_))
 have hr:=of_decide_eq_true h
 unfold CZ DC NF
 have elen:∀ l∈L,l.length≤1000000:=fun l hm=>by
   have:=(List.sublist_flatten_of_mem hm).length_le
   omega
 refine DF L.length (by omega) (fun i=>∀ (q:Nat) (hq:q<L.length),q<i→StrC L[q]) (fun q _ h=>by omega) (fun i next hi hm hn=>?_) (fun next hm=>?_)
 · refine A0 (fun _=>AJ hi (iD (elen _ (List.getElem_mem hi)) (fun hs=>AC rfl (hn fun q hq hqi=>?_)) (fun hs=>AU rfl (AU (decide_eq_true (by omega)) (h6 hr fun ha=>hs (ha _ (List.getElem_mem hi))))))) (fun h=>by omega)
   by_cases e:q=i
   · subst e; exact hs
   · exact hm q hq (by omega)
 refine A0 (fun h=>by omega) (fun _=>AC (by decide) (rM hl (by omega) (yT (by omega) fun t hp hs=>?_)))
 have hall:∀ l∈L,StrC l:=fun l O=>by obtain ⟨q,hq,rfl⟩:=List.getElem_of_mem O; exact hm q hq hq
 have Z:VO t:=oV hp.symm hok
 have htl:=hp.length_eq
 have hfin:=h0 hr hall
 refine B3 (fun (s:List AB) i=>(s,i)) 0 t.length (by omega) (fun i s=>StrC s∧VO s∧s.length≤i∧(∀ k,EB r k s=EB r k (t.take i))∧(s=[]∧i=0∨∃ p y,s=p++[y]∧0<i∧GO y=GO (gC t (i - 1)))) (by omega) ⟨.nil,(fun c D=>by cases D),Nat.le_refl _,fun _=>rfl,.inl ⟨rfl,rfl⟩⟩ (fun i s next _ hi O hn=>?_) (fun s next O=>?_)
 · obtain ⟨V,m2,m3,m4,m5⟩:=O
   have hx:LG t[i].Val:=Z _ (List.getElem_mem hi)
   have J:VO [t[i]]:=fun c D=>by rw [List.mem_singleton] at D; subst D; exact hx
   have hoti:VO (t.take i):=fun c D=>Z c (List.mem_of_mem_take D)
   have htk:∀ k,EB r k (t.take (i+1))=dU r (EB r k s) (iC k t[i]):=fun k=>by
     rw [List.take_succ_eq_append_getElem hi,FH hoti J,←m4 k,EB,EB,KW]
   have Y:=lQ hi
   refine A0 (fun _=>AJ hi ?_) (fun h=>by omega)
   have app:StrC (s++[t[i]])→EA 32 s [t[i]] fun _=>next (s++[t[i]],A7 ((i:Int)+1)):=fun hstr=>AQ (by simp; omega) (hn _ ⟨hstr,fun c D=>by
       rcases List.mem_append.1 D with h | h
       · exact m2 c h
       · exact J c h,by simp; omega,fun k=>by rw [htk,FH m2 J,EB,EB,KW],.inr ⟨s,t[i],rfl,by omega,by rw [Nat.add_sub_cancel,←Y]⟩⟩)
   unfold DR
   rcases m5 with ⟨rfl,rfl⟩ | ⟨p,y,rfl,i0,hy⟩
   · exact A0 (fun h=>by simp at h) (fun _=>AC rfl (app (by simp [StrC])))
   · have m3':p.length+1≤i:=by simpa using m3
     have hlast:(A7 ((((p++[y]).length:Nat):Int) - 1))=((p.length:Nat):Int):=by
       rw [List.length_append,List.length_singleton,U3 (by omega) (by omega),Nat.add_sub_cancel]
     rw [hlast]
     have G:(p++[y])[p.length]? = some y:=by simp
     refine A0 (fun _=>AA (x:=y) (by omega) G (SD (BB (fun he=>?_) (fun he=>?_)))) (fun h=>by simp at h)
     · have U:=oX.1 he
       have hyo:LG y.Val:=m2 y (by simp)
       refine AA (x:=y) (by omega) G (VG hyo hx (AA (x:=y) (by omega) G ?_))
       rw [show (p++[y]).set ((p.length:Nat):Int).toNat (⟨y.Row,y.Col,F1 r y.Val t[i].Val⟩:AB)=p++[⟨y.Row,y.Col,F1 r y.Val t[i].Val⟩] by simp]
       have W:VO p:=fun c D=>m2 c (by simp [D])
       have hy1:VO [y]:=fun c D=>by rw [List.mem_singleton] at D; subst D; exact hyo
       have hy2:VO [⟨y.Row,y.Col,F1 r y.Val t[i].Val⟩]:=fun c D=>by rw [List.mem_singleton] at D; subst D; exact QL hyo hx
       refine hn _ ⟨?_,fun c D=>?_,by simp at m3 ⊢; omega,fun k=>?_,.inr ⟨p,_,rfl,by omega,?_⟩⟩
       · unfold StrC at V ⊢
         rw [List.pairwise_append] at V ⊢
         refine ⟨V.1,by simp,fun a ha b hb=>?_⟩
         rw [List.mem_singleton] at hb; subst hb
         exact V.2.2 a ha y (by simp)
       · rcases List.mem_append.1 D with h | h
         · exact W c h
         · exact hy2 c h
       · rw [htk,FH W hy2,FH W hy1,M3 (LI W) (LI hy1) (SE hx)]
         congr 1
         rw [EB,EB,KW,EB,EB,KW]
         unfold iC
         by_cases ek:GO y=k
         · rw [if_pos (show GO ⟨y.Row,y.Col,F1 r y.Val t[i].Val⟩=k from ek),if_pos ek,if_pos (U.symm.trans ek)]; rfl
         · rw [if_neg (show ¬GO ⟨y.Row,y.Col,F1 r y.Val t[i].Val⟩=k from ek),if_neg ek,if_neg (fun h=>ek (U.trans h))]; rfl
       · rw [Nat.add_sub_cancel,←Y]; exact U
     · have hne:GO y≠GO t[i]:=fun h=>he (oX.2 h)
       refine app ?_
       have hle:fP (gC t (i - 1)) (gC t i):=hs _ _ (by omega) (by omega) (by omega)
       rw [←Y] at hle
       have hyx:SR y t[i]:=ZO (a:=GO t[i]) (b:=GO y) (by rw [hy]; exact hle) fun e=>hne e.symm
       unfold StrC at V ⊢
       rw [List.pairwise_append]
       refine ⟨V,by simp,fun a ha b hb=>?_⟩
       rw [List.mem_singleton] at hb; subst hb
       rcases List.mem_append.1 ha with h | h
       · rw [List.pairwise_append] at V
         exact IL (V.2.2 a h y (by simp)) hyx
       · rw [List.mem_singleton] at h; subst h; exact hyx
 · obtain ⟨V,m2,m3,m4,m5⟩:=O
   refine A0 (fun h=>by omega) (fun _=>hfin s V m2 (by omega) fun k=>?_)
   rw [m4,List.take_length]
   exact fQ hp Z
theorem DJ {rows cols:Int} {T:List A1} (h:Canon rows cols T) {l u c d:Int} (l0:0≤l) (l1:l≤u) (l2:u≤rows) (h0:0≤c) (h1:c≤d) (h2:d≤cols) :
  bS rows cols T (l,u) (c,d)=B0 (u - l) (d - c) (HI l u c d T)∧Canon (u - l) (d - c) (HI l u c d T)∧∀ i j:Int,0≤i→i<u - l→0≤j→j<d - c→XA (dV (HI l u c d T) i) j=XA (dV T (i+l)) (j+c):=by
 have V:UP l=l:=by unfold UP; split <;> omega
 have W:X9 u rows=u:=by unfold X9; split <;> omega
 have Z:ext l u rows=u - l:=by unfold ext; rw [V,W]; split <;> omega
 have O:UP c=c:=by unfold UP; split <;> omega
 have U:X9 d cols=d:=by unfold X9; split <;> omega
 have e6:ext c d cols=d - c:=by unfold ext; rw [O,U]; split <;> omega
 have J:=bT h (l,u) (c,d)
 simp only [V,W,Z,O,U,e6] at J
 refine ⟨by unfold bS; simp only [V,W,Z,O,U,e6],J,fun i j D hi1 Y hj1=>AaZ fun a=>?_⟩
 rw [oR J D,oR h (by omega),tH]
 exact ⟨fun G=>G.1,fun G=>⟨G,⟨D,by dsimp only; omega⟩,Y,by dsimp only; omega⟩⟩
theorem ZZ {l u c d:Int} {T:List A1} (h:∀ t∈T,GM t.Val):∀ t∈HI l u c d T,GM t.Val:=fun t D=>by
 have:=h _ ((tH t).1 D).1
 exact this
theorem X1 {r:Int} {k:HN} {A B:List A1} {t:A1} {M:List A1}:EB r k (FQ r A B (t :: M))=dU r (if (t.Row,t.Col)=k then KY r A B t.Row t.Col else none) (EB r k (FQ r A B M)):=by
 unfold FQ
 rw [List.filterMap_cons]
 unfold G1
 cases hw:KY r A B t.Row t.Col with
 | none=>simp [dU]
 | some w=>
  simp only [Option.map_some,EB]
  rfl
theorem MP {r:Int} {k:HN} {A B:List A1}:∀ {M:List A1},(∀ t∈M,(t.Row,t.Col)≠k)→EB r k (FQ r A B M)=none
 | [],_=>rfl
 | t :: M,h=>by rw [X1,if_neg (h t (by simp)),MP fun u D=>h u (List.mem_cons_of_mem _ D)]; rfl
theorem jD {r:Int} {k:HN} {A B J U G O:List A1}:∀ {M:List A1},Srt M→(∀ t∈M,KY r A B t.Row t.Col=dU r (KY r J U t.Row t.Col) (KY r G O t.Row t.Col)) →
  EB r k (FQ r A B M)=dU r (EB r k (FQ r J U M)) (EB r k (FQ r G O M))
 | [],_,_=>rfl
 | t :: M,hs,h=>by
  unfold Srt at hs
  rw [List.pairwise_cons] at hs
  rw [X1,X1,X1]
  by_cases e:(t.Row,t.Col)=k
  · have hn:∀ u∈M,(u.Row,u.Col)≠k:=fun u D V=>by
     have:=hs.1 u D
     unfold key at this
     rw [e,V] at this
     exact EE _ this
    rw [if_pos e,if_pos e,if_pos e,MP hn,MP hn,MP hn,KW,KW,KW]
    exact h t (by simp)
  · rw [if_neg e,if_neg e,if_neg e]
    exact jD hs.2 fun u D=>h u (List.mem_cons_of_mem _ D)
theorem NP {r:Int} {A B M:List A1} {G cm:Int} (D:Canon G cm M):StrC (FQ r A B M)∧VO (FQ r A B M)∧(FQ r A B M).length≤65536:=by
 have h:=eM (r:=r) (ra:=0) (ca:=0) (rb:=0) (cb:=0) (A:=A) (B:=B) D
 exact ⟨h.inc,h.ok,h.len⟩
theorem fS {x y:AB} {Q:Bool→Prop} (G:SR x y→Q true) (D:¬SR x y→Q false):JS x y Q:=by
 unfold JS
 unfold SR MA at G D
 simp only at G D
 refine A0 (fun h=>G (.inl h)) (fun h=>BB (fun J=>?_) (fun J=>D (by omega)))
 by_cases c:x.Col<y.Col
 · rw [decide_eq_true c]; exact G (.inr ⟨J,c⟩)
 · rw [decide_eq_false c]; exact D (by omega)
theorem lV {l:List AB} {Q:Bool→Prop} (hl:l.length≤1000000) (G:StrC l→Q true) (W:¬StrC l→Q false):JT l Q:=by
 unfold JT
 by_cases h0:l.length=0
 · refine ⟨1,?_⟩
   exact A0 (fun h=>by omega) (fun _=>G (lU fun j D=>by omega))
 refine B3 (σ:=Unit) (fun _ i=>i) 1 l.length (by omega) (fun i _=>∀ (j:Nat) (G:j+1<l.length),j+1<i→SR l[j] l[j+1]) (by omega) (fun j _ h=>by omega) (fun i s next h3 hi J U=>?_) (fun s next J=>?_) (s0:=())
 · refine A0 (fun _=>?_) (fun h=>by omega)
   obtain ⟨i,rfl⟩:∃ q,i=q+1:=⟨i - 1,by omega⟩
   rw [U3 (by omega) (by omega),Nat.add_sub_cancel]
   refine AJ (by omega) (AJ hi (fS (fun h=>AC rfl (U () fun j D O=>?_)) (fun h=>AU rfl (W fun V=>h (List.pairwise_iff_getElem.1 V i (i+1) (by omega) hi (by omega))))))
   by_cases e:j=i
   · subst e; exact h
   · exact J j D (by omega)
 · exact A0 (fun h=>by omega) (fun _=>G (lU fun j D=>J j D D))
def AcV (r:Int) (s:List AB) (x:AB) (t:List AB):Prop:=StrC t∧VO t∧t.length≤s.length+1∧∀ k,EB r k t=EB r k (s++[x])
theorem Ab4 {r:Int} {p q:List AB} {y x:AB} (G:StrC (p++y :: q)) (U:VO (p++y :: q)) (W:LG x.Val) (hk:GO y=GO x):AcV r (p++y :: q) x (p ++ ⟨y.Row,y.Col,F1 r y.Val x.Val⟩ :: q):=by
 have hp:VO p:=fun c D=>U c (by simp [D])
 have hy:LG y.Val:=U y (by simp)
 have Y:VO q:=fun c D=>U c (by simp [D])
 have V:VO (y :: q):=fun c D=>U c (by simp at D ⊢; exact .inr D)
 have hw:LG (F1 r y.Val x.Val):=QL hy W
 have J:VO [x]:=fun c D=>by rw [List.mem_singleton] at D; subst D; exact W
 have O:VO (⟨y.Row,y.Col,F1 r y.Val x.Val⟩ :: q):=fun c D=>by
   rcases List.mem_cons.1 D with rfl | h
   · exact hw
   · exact Y c h
 refine ⟨?_,fun c D=>?_,by simp,fun k=>?_⟩
 · unfold StrC at G ⊢
   rw [List.pairwise_append,List.pairwise_cons] at G ⊢
   refine ⟨G.1,⟨fun a Z=>G.2.1.1 a Z,G.2.1.2⟩,fun a Z b hb=>?_⟩
   rcases List.mem_cons.1 hb with rfl | h
   · exact G.2.2 a Z y (by simp)
   · exact G.2.2 a Z b (by simp [h])
 · rcases List.mem_append.1 D with h | h
   · exact hp c h
   · exact O c h
 · rw [FH U J,FH hp O,FH hp V,M3 (LI hp) (LI V) (LI J)]
   congr 1
   have e1:EB r k [x]=iC k x:=by rw [EB,EB,KW]
   rw [EB,EB,e1,M3 (SE hy) (LI Y) (SE W),oN (LI Y) (SE W),←M3 (SE hy) (SE W) (LI Y)]
   congr 1
   unfold iC
   by_cases ek:GO y=k
   · rw [if_pos (show GO ⟨y.Row,y.Col,F1 r y.Val x.Val⟩=k from ek),if_pos ek,if_pos (hk.symm.trans ek)]; rfl
   · rw [if_neg (show ¬GO ⟨y.Row,y.Col,F1 r y.Val x.Val⟩=k from ek),if_neg ek,if_neg (fun h=>ek (hk.trans h))]; rfl
theorem yU {r:Int} {p q:List AB} {x:AB} (G:StrC (p++q)) (J:VO (p++q)) (Y:LG x.Val) (V:∀ c∈p,SR c x) (Z:∀ c∈q,SR x c):AcV r (p++q) x (p++x :: q):=by
 have D:VO (p++x :: q):=fun c W=>by
   rcases List.mem_append.1 W with h | h
   · exact J c (by simp [h])
   · rcases List.mem_cons.1 h with rfl | h
     · exact Y
     · exact J c (by simp [h])
 refine ⟨?_,D,by simp; omega,fun k=>fQ ?_ D⟩
 · unfold StrC at G ⊢
   rw [List.pairwise_append] at G ⊢
   rw [List.pairwise_cons]
   refine ⟨G.1,⟨Z,G.2.1⟩,fun a O b U=>?_⟩
   rcases List.mem_cons.1 U with rfl | h
   · exact V a O
   · exact G.2.2 a O b h
 · have:(p++x :: q).Perm (x :: (p++q)):=List.perm_middle
   refine this.trans ?_
   have h:=(List.perm_append_comm (l₁:=[x]) (l₂:=p++q))
   exact h
theorem aA {r:Int} {L:List (List AB)} {Q:List AB×Int→Prop} (hl:L.length≤1000000) (hf:L.flatten.length≤1000000) (hok:VO L.flatten) (h8:¬(1≤r∧r≤5)→Q ([],8)) (h6:(1≤r∧r≤5)→¬(∀ l∈L,StrC l)→Q ([],6))
   (h0:(1≤r∧r≤5)→(∀ l∈L,StrC l)→∀ s,StrC s→VO s→s.length≤L.flatten.length→(∀ k,EB r k s=EB r k L.flatten)→Q (s,0)):HS r L Q:=by
 unfold HS
 refine JY (BN (fun h=>h8 (of_decide_eq_false h)) (fun h=>?_))
 have hr:=of_decide_eq_true h
 have elen:∀ l∈L,l.length≤1000000:=fun l D=>by
   have:=(List.sublist_flatten_of_mem D).length_le
   omega
 refine DF L.length (by omega) (fun i=>∀ (q:Nat) (U:q<L.length),q<i→StrC L[q]) (fun q _ h=>by omega) (fun i next hi D hn=>?_) (fun next D=>?_)
 · refine A0 (fun _=>AJ hi (lV (elen _ (List.getElem_mem hi)) (fun hs=>AC rfl (hn fun q U hqi=>?_)) (fun hs=>AU rfl (h6 hr fun Z=>hs (Z _ (List.getElem_mem hi)))))) (fun h=>by omega)
   by_cases e:q=i
   · subst e; exact hs
   · exact D q U (by omega)
 refine A0 (fun h=>by omega) (fun _=>?_)
 have hall:∀ l∈L,StrC l:=fun l hm'=>by obtain ⟨q,U,rfl⟩:=List.getElem_of_mem hm'; exact D q U U
 have hfin:=h0 hr hall
 clear h8 h6 h0 D
 have tk:∀ {i:Nat} (h:i<L.length),(L.take (i+1)).flatten=(L.take i).flatten++L[i]:=fun h=>by rw [List.take_succ_eq_append_getElem h,List.flatten_append]; simp
 have tl:∀ i:Nat,(L.take i).flatten.length≤L.flatten.length:=fun i=>by
   conv=>rhs; rw [←List.take_append_drop i L,List.flatten_append,List.length_append]
   omega
 have tok:∀ i:Nat,VO (L.take i).flatten:=fun i c J=>hok c (by
   rw [←List.take_append_drop i L,List.flatten_append]; simp only [List.mem_append]; exact .inl J)
 refine B3 (fun (s:List AB) i=>(s,i)) 0 L.length (by omega) (fun i s=>StrC s∧VO s∧s.length≤(L.take i).flatten.length∧∀ k,EB r k s=EB r k (L.take i).flatten) (by omega) ⟨.nil,(fun c J=>by cases J),by simp,fun k=>by simp⟩ (fun i s next _ hi D hn=>?_) (fun s next D=>?_)
 · obtain ⟨m1,m2,m3,m4⟩:=D
   have W:=tk hi
   have hti:=tl (i+1)
   rw [W,List.length_append] at hti
   have Y:VO L[i]:=fun c J=>tok (i+1) c (by rw [W]; simp [J])
   have hoi:=tok i
   refine A0 (fun _=>?_) (fun h=>by omega)
   refine B3 (fun (s:List AB) q=>(s,q)) 0 L[i].length (by omega) (fun q s=>StrC s∧VO s∧s.length≤(L.take i).flatten.length+q∧∀ k,EB r k s=EB r k ((L.take i).flatten++L[i].take q)) (by omega) ⟨m1,m2,m3,fun k=>by rw [m4]; simp⟩ (fun q s nx _ U D hx=>?_) (fun s nx D=>?_)
   · obtain ⟨g1,g2,g3,g4⟩:=D
     have O:LG (L[i][q]).Val:=Y _ (List.getElem_mem U)
     have hotq:VO ((L.take i).flatten++L[i].take q):=fun c J=>by
       rcases List.mem_append.1 J with h | h
       · exact hoi c h
       · exact Y c (List.mem_of_mem_take h)
     have hx1:VO [L[i][q]]:=fun c J=>by rw [List.mem_singleton] at J; subst J; exact O
     have go:∀ t,AcV r s L[i][q] t→nx (t,A7 ((q:Int)+1)):=fun t ht=>hx t ⟨ht.1,ht.2.1,by have:=ht.2.2.1; omega,fun k=>by
       rw [ht.2.2.2,List.take_succ_eq_append_getElem U,←List.append_assoc,FH g2 hx1,FH hotq hx1,g4]⟩
     refine AJ hi (A0 (fun _=>AJ hi (AJ U ?_)) (fun h=>by omega))
     generalize L[i][q]=x at O go
     refine CA (fun t:Int=>∃ j:Nat,t=j∧j≤s.length∧(∀ (p:Nat) (hp:p<s.length),p<j→SR s[p] x)∧∀ h:j<s.length,¬SR s[j] x) (fun t ht=>?_) fun k hk=>?_
     · obtain ⟨j,rfl,j1,j2,j3⟩:=ht
       have hlow:∀ c∈s.take j,SR c x:=fun c J=>by
         obtain ⟨p,hp,rfl⟩:=List.getElem_of_mem J
         rw [List.length_take] at hp
         rw [List.getElem_take]
         exact j2 p (by omega) (by omega)
       refine CA (fun b:Bool=>(b=true→∃ h:j<s.length,GO s[j]=GO x)∧(b=false→∀ h:j<s.length,SR x s[j])) (fun b hb=>?_) fun k hk=>?_
       · cases b with
         | true=>
           obtain ⟨V,hkey⟩:=hb.1 rfl
           refine AU rfl (AJ V (TU (g2 _ (List.getElem_mem V)) O (AJ V ?_)))
           have es:s=s.take j++s[j] :: s.drop (j+1):=by rw [←List.drop_eq_getElem_cons V,List.take_append_drop]
           have G:=Ab4 (r:=r) (p:=s.take j) (q:=s.drop (j+1)) (y:=s[j]) (x:=x) (by rw [←es]; exact g1) (by rw [←es]; exact g2) O hkey
           rw [←es] at G
           have e2:s.set ((j:Nat):Int).toNat (⟨s[j].Row,s[j].Col,F1 r s[j].Val x.Val⟩:AB)=s.take j ++ ⟨s[j].Row,s[j].Col,F1 r s[j].Val x.Val⟩ :: s.drop (j+1):=by
             rw [Int.toNat_natCast,List.set_eq_take_append_cons_drop,if_pos V]
           rw [e2]
           exact go _ G
         | false=>
           have hnot:=hb.2 rfl
           refine AC rfl (AQ (by simp; omega) ?_)
           have hhigh:∀ c∈s.drop j,SR x c:=fun c J=>by
             obtain ⟨p,hp,rfl⟩:=List.getElem_of_mem J
             rw [List.length_drop] at hp
             rw [List.getElem_drop]
             have h1:=hnot (by omega)
             by_cases e:p=0
             · subst e; exact h1
             · exact IL h1 (List.pairwise_iff_getElem.1 g1 j (j+p) (by omega) (by omega) (by omega))
           have G:=yU (r:=r) (p:=s.take j) (q:=s.drop j) (x:=x) (by rw [List.take_append_drop]; exact g1) (by rw [List.take_append_drop]; exact g2) O hlow hhigh
           rw [List.take_append_drop] at G
           have e1:A7 ((((s++[(⟨0,0,⟨0,0⟩⟩:AB)]).length:Nat):Int) - 1)=((s.length:Nat):Int):=by
             rw [List.length_append,List.length_singleton,U3 (by omega) (by omega),Nat.add_sub_cancel]
           rw [e1]
           refine DA (fun st:List AB×Int=>∃ m:Nat,st.2=m∧j≤m∧m≤s.length∧st.1.length=s.length+1∧(∀ a,a<m→st.1[a]? = s[a]?)∧∀ a,m≤a→a<s.length→st.1[a+1]? = s[a]?) (fun st=>st.2.toNat)
             ⟨s.length,rfl,j1,Nat.le_refl _,by simp,fun a Z=>by dsimp only; rw [List.getElem?_append_left Z],fun a h1 h2=>by omega⟩ ?_
           rintro ⟨v,_⟩ ny ⟨m,rfl,k1,k2,k3,k4,k5⟩ hy
           dsimp only at k3 k4 k5 ⊢
           refine A0 (fun hjm=>?_) (fun hjm=>?_)
           · rw [U3 (i:=m) (by omega) (by omega)]
             refine AJ (i:=m - 1) (by omega) (AJ (i:=m) (by omega) (hy _ ⟨m - 1,rfl,by omega,by omega,by simpa using k3,fun a Z=>?_,fun a h1 h2=>?_⟩ (by dsimp only; omega)))
             · dsimp only
               rw [Int.toNat_natCast,List.getElem?_set_ne (by omega)]; exact k4 a (by omega)
             · dsimp only
               rw [Int.toNat_natCast,List.getElem?_set]
               by_cases e:a=m - 1
               · subst e
                 rw [if_pos (by omega),if_pos (by omega),←k4 (m - 1) (by omega),List.getElem?_eq_getElem (by omega)]
               · rw [if_neg (by omega)]; exact k5 a (by omega) h2
           · have hjm':m=j:=by omega
             subst hjm'
             refine AJ (i:=m) (by omega) ?_
             have:=YH (pre:=s.take m) (post:=s.drop m) (s:=v) (x:=x) (by rw [List.length_take,List.length_drop]; omega) (fun a Z=>?_) (fun a Z=>?_)
             · rw [List.length_take,Nat.min_eq_left k2] at this
               rw [Int.toNat_natCast,this]
               exact go _ G
             · rw [List.length_take] at Z
               rw [k4 a (by omega),List.getElem?_take,if_pos (by omega)]
             · rw [List.length_drop] at Z
               rw [List.length_take,Nat.min_eq_left k2,show m+1+a=m+a+1 by omega,k5 (m+a) (by omega) (by omega),List.getElem?_drop]
       · refine A0 (fun V=>?_) (fun V=>hk _ ⟨(fun h=>by cases h),fun _ h=>by omega⟩)
         have hj':j<s.length:=by omega
         refine AJ hj' (fS (fun h=>hk _ ⟨(fun h=>by cases h),fun _ _=>h⟩) (fun h=>hk _ ⟨fun _=>⟨hj',?_⟩,fun h=>by cases h⟩))
         have h3:=j3 hj'
         by_cases e:GO s[j]=GO x
         · exact e
         · exact absurd (ZO (a:=GO s[j]) (b:=GO x) h3 e) h
     · refine DF s.length (by omega) (fun j=>∀ (p:Nat) (hp:p<s.length),p<j→SR s[p] x) (fun p _ h=>by omega) (fun j ny V D hy=>?_) (fun ny D=>?_)
       · refine A0 (fun _=>AJ V (fS (fun h=>AU rfl (hy fun p hp hpj=>?_)) (fun h=>AC rfl (hk _ ⟨j,rfl,by omega,D,fun _=>h⟩)))) (fun h=>by omega)
         by_cases e:p=j
         · subst e; exact h
         · exact D p hp (by omega)
       · exact A0 (fun h=>by omega) (fun _=>hk _ ⟨s.length,rfl,Nat.le_refl _,fun p hp _=>D p hp hp,fun h=>by omega⟩)
   · obtain ⟨g1,g2,g3,g4⟩:=D
     refine AJ hi (A0 (fun h=>by omega) (fun _=>hn _ ⟨g1,g2,by rw [W,List.length_append]; exact g3,fun k=>?_⟩))
     rw [g4,W,List.take_length]
 · obtain ⟨m1,m2,m3,m4⟩:=D
   rw [List.take_length] at m3
   refine A0 (fun h=>by omega) (fun _=>hfin s m1 m2 m3 fun k=>?_)
   rw [m4,List.take_length]
def PH (n k:Int):Prop:=(0≤n∧n≤4096)∧(1≤k∧k≤8)
instance (n k:Int):Decidable (PH n k):=by unfold PH; infer_instance
def jE (i k:Int):Int:=if i<0 then 0 else if k<i then k else i
def BU (n k i:Int):Int:=if PH n k then jE i k*n / k else 0
theorem Ac5 {i k:Int} (h:1≤k):0≤jE i k∧jE i k≤k:=by unfold jE; split <;> (try split) <;> omega
theorem yV {i j k:Int} (h:i≤j) (hk:1≤k):jE i k≤jE j k:=by unfold jE; split <;> split <;> (try split) <;> (try split) <;> omega
theorem Ac6 {i k n:Int} (hk:1≤k∧k≤8) (h:0≤n∧n≤4096) (hi:0≤i∧i≤k):0≤i*n∧i*n≤32768:=by
 refine ⟨Int.mul_nonneg hi.1 h.1,?_⟩
 have:=Int.mul_le_mul (show i≤8 by omega) h.2 h.1 (by omega)
 omega
theorem MQ {n k i j:Int} (h:i≤j):BU n k i≤BU n k j:=by
 unfold BU
 by_cases hm:PH n k
 · rw [if_pos hm,if_pos hm]
   exact Int.ediv_le_ediv (by have:=hm.2; omega) (Int.mul_le_mul_of_nonneg_right (yV h hm.2.1) hm.1.1)
 · rw [if_neg hm,if_neg hm]; exact Int.le_refl _
theorem fT (n k:Int):BU n k 0=0:=by
 unfold BU jE; split
 · rename_i h
   have h1:=h.2.1
   rw [if_neg (by omega),if_neg (by omega),Int.zero_mul,Int.zero_ediv]
 · rfl
theorem U4 {n k:Int} (h:PH n k):BU n k k=n:=by
 unfold BU jE
 have h1:=h.2.1
 rw [if_pos h,if_neg (by omega),if_neg (by omega),Int.mul_comm,Int.mul_ediv_cancel _ (by omega)]
theorem Ab5 {n k i:Int} (h:i≤0):BU n k i=0:=by
 by_cases e:i=0
 · subst e; exact fT n k
 · unfold BU jE; split
   · rw [if_pos (by omega),Int.zero_mul,Int.zero_ediv]
   · rfl
theorem jF {n k i:Int}:0≤BU n k i∧(0≤n→BU n k i≤n):=by
 by_cases hm:PH n k
 · have D:=Ac5 (i:=i) hm.2.1
   refine ⟨?_,fun _=>?_⟩
   · unfold BU; rw [if_pos hm]; exact Int.ediv_nonneg (Int.mul_nonneg D.1 hm.1.1) (by have:=hm.2; omega)
   · by_cases hi:i≤k
     · have:=MQ (n:=n) hi (k:=k); rwa [U4 hm] at this
     · have h1:=hm.2.1
       have e:BU n k i=n:=by
        unfold BU jE
        rw [if_pos hm,if_neg (by omega),if_pos (by omega),Int.mul_comm,Int.mul_ediv_cancel _ (by omega)]
       omega
 · unfold BU; rw [if_neg hm]; exact ⟨by omega,fun h=>h⟩
theorem VP {p q r:α→Bool}:∀ {l:List α},(∀ x∈l,r x=(p x || q x))→(∀ x∈l,¬(p x=true∧q x=true))→(l.filter p++l.filter q).Perm (l.filter r)
 | [],_,_=>by simp
 | x :: l,h,h'=>by
  have ih:=VP (fun y G=>h y (List.mem_cons_of_mem _ G)) (fun y G=>h' y (List.mem_cons_of_mem _ G))
  have J:=h x List.mem_cons_self
  have D:=h' x List.mem_cons_self
  cases hp:p x with
  | true=>
   cases hq:q x with
   | true=>exact absurd ⟨hp,hq⟩ D
   | false=>
    rw [List.filter_cons_of_pos hp,List.filter_cons_of_neg (by simp [hq]),List.filter_cons_of_pos (by rw [J,hp]; rfl)]
    exact ih.cons x
  | false=>
   cases hq:q x with
   | true=>
    rw [List.filter_cons_of_neg (by simp [hp]),List.filter_cons_of_pos hq,List.filter_cons_of_pos (by rw [J,hp,hq]; rfl)]
    exact List.perm_middle.trans (ih.cons x)
   | false=>
    rw [List.filter_cons_of_neg (by simp [hp]),List.filter_cons_of_neg (by simp [hq]),List.filter_cons_of_neg (by rw [J,hp,hq]; simp)]
    exact ih
theorem VQ {f:α→Int} {b:Nat→Int} {l:List α} (D:∀ i j,i≤j→b i≤b j) (G:∀ x∈l,b 0≤f x):∀ m:Nat,
  ((List.range m).flatMap fun i=>l.filter fun x=>decide (b i≤f x∧f x<b (i+1))).Perm (l.filter fun x=>decide (f x<b m))
 | 0=>by
  rw [List.filter_eq_nil_iff.2 (fun x h=>by have:=G x h; simp only [decide_eq_true_eq]; omega)]; simp
 | m+1=>by
  rw [List.range_succ,List.flatMap_append,List.flatMap_singleton]
  refine ((VQ D G m).append_right _).trans (VP (fun x h=>?_) (fun x h=>?_))
  · have:=D m (m+1) (by omega)
    rw [Bool.eq_iff_iff]
    simp only [Bool.or_eq_true,decide_eq_true_eq]; omega
  · simp only [decide_eq_true_eq]; omega
theorem aB {f g:α→List β}:∀ {l:List α},(∀ x∈l,(f x).Perm (g x))→(l.flatMap f).Perm (l.flatMap g)
 | [],_=>by simp
 | x :: l,h=>by
  rw [List.flatMap_cons,List.flatMap_cons]
  exact (h x List.mem_cons_self).append (aB fun y D=>h y (List.mem_cons_of_mem _ D))
theorem MR {f g:α→List β} {l:List α} (h:∀ x∈l,f x=g x):l.flatMap f=l.flatMap g:=by
 induction l with
 | nil=>rfl
 | cons x l G=>rw [List.flatMap_cons,List.flatMap_cons,h x List.mem_cons_self,G fun y D=>h y (List.mem_cons_of_mem _ D)]
theorem cF {q:Nat} (D:0<q) (F:Nat→Nat→List β):∀ p:Nat,((List.range (p*q)).flatMap fun k=>F (k / q) (k % q))=(List.range p).flatMap fun i=>(List.range q).flatMap fun j=>F i j
 | 0=>by simp
 | p+1=>by
  rw [Nat.succ_mul,List.range_add,List.flatMap_append,cF D F p,List.range_succ,List.flatMap_append,List.flatMap_singleton,List.flatMap_map]
  congr 1
  refine MR fun j h=>?_
  have h:=List.mem_range.1 h
  rw [Nat.mul_comm p q,Nat.mul_add_div D,Nat.div_eq_of_lt h,Nat.mul_add_mod,Nat.mod_eq_of_lt h,Nat.add_zero]
def shT (a b:Int) (t:A1):A1:=⟨t.Row+a,t.Col+b,t.Val⟩
theorem yW {l h c d:Int} {T:List A1}:(HI l h c d T).map (shT l c)=T.filter fun t=>decide ((l≤t.Row∧t.Row<h)∧(c≤t.Col∧t.Col<d)):=by
 unfold HI
 rw [List.map_map]
 conv=>rhs; rw [←List.map_id (List.filter _ T)]
 refine List.map_congr_left fun t _=>?_
 cases t; simp only [Function.comp_apply,shT,id_eq,A1.mk.injEq]; exact ⟨by omega,by omega,trivial⟩
theorem dC {rows cols:Int} {T:List A1} (h:Canon rows cols T) {p q:Nat} (hp:PH rows p) (O:PH cols q) :
  ((List.range p).flatMap fun i:Nat=>(List.range q).flatMap fun j:Nat=>(HI (BU rows p i) (BU rows p ((i:Int)+1)) (BU cols q j) (BU cols q ((j:Int)+1)) T).map (shT (BU rows p i) (BU cols q j))).Perm T:=by
 have e:∀ i:Nat,((List.range q).flatMap fun j:Nat=>(HI (BU rows p i) (BU rows p ((i:Int)+1)) (BU cols q j) (BU cols q ((j:Int)+1)) T).map (shT (BU rows p i) (BU cols q j))).Perm (T.filter fun t=>decide (BU rows p i≤t.Row∧t.Row<BU rows p ((i:Int)+1))):=by
  intro i
  have G:=VQ (f:=fun t:A1=>t.Col) (b:=fun j:Nat=>BU cols q j) (l:=T.filter fun t=>decide (BU rows p i≤t.Row∧t.Row<BU rows p ((i:Int)+1))) (fun i j J=>MQ (by omega)) (fun t D=>by
    have:=(h.inn t (List.mem_filter.1 D).1).2.2.1
    simp only [Int.natCast_zero]; rw [fT]; exact this) q
  refine List.Perm.trans (List.Perm.of_eq (MR fun j _=>?_)) (G.trans (List.Perm.of_eq ?_))
  · rw [yW,List.filter_filter]
    refine List.filter_congr fun t _=>?_
    rw [Bool.eq_iff_iff]
    simp only [Bool.and_eq_true,decide_eq_true_eq,Int.natCast_add,Int.natCast_one]
    exact ⟨fun h=>⟨h.2,h.1⟩,fun h=>⟨h.2,h.1⟩⟩
  · refine List.filter_eq_self.2 fun t D=>?_
    have:=(h.inn t (List.mem_filter.1 D).1).2.2.2
    rw [U4 O]; simpa using this
 refine (aB fun i _=>e i).trans ?_
 have G:=VQ (f:=fun t:A1=>t.Row) (b:=fun j:Nat=>BU rows p j) (l:=T) (fun i j J=>MQ (by omega)) (fun t D=>by
  have:=(h.inn t D).1
  simp only [Int.natCast_zero]; rw [fT]; exact this) p
 refine G.trans (List.Perm.of_eq ?_)
 refine List.filter_eq_self.2 fun t D=>?_
 have:=(h.inn t D).2.1
 rw [U4 hp]; simpa using this
end Go.Proofs.YtbohadngdkjljaaGreat
