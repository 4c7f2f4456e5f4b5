import Derived.Test.YtbohadngdkjljaaGreatStabB
namespace Go.Proofs.YtbohadngdkjljaaGreat
open Go Go.Fw
set_option linter.unusedVariables false
set_option linter.unusedSimpArgs false
def BlkC (t:List AM) (bs n d:Nat):Prop:=∀ i j,d*bs≤i→i<j→j<d*bs+bs→j<n→lL (gC t i) (gC t j)
theorem BlkC.same {t u:List AM} {bs n d:Nat} (h:BlkC t bs n d) (he:∀ i,d*bs≤i→i<d*bs+bs→gC u i=gC t i):BlkC u bs n d:=fun i j G J D O=>by rw [he i G (by omega),he j (by omega) D]; exact h i j G J D O
theorem AeF {s:List AM} {Q:List AM→Prop} (hl:s.length≤1000000000) (hQ:∀ t,t.Perm s→fM t 0 s.length→Q t):CD s Q:=by
  unfold CD ET
  refine EB (fun O:List AM×Int×Int=>∃ c:Nat,O.2.1=((20*c:Nat):Int)∧O.2.2=((20*c+20:Nat):Int)∧20*c≤s.length∧SpC 0 s.length s O.1∧∀ d,d<c→fM O.1 (20*d) (20*d+20)) (fun O=>s.length - O.2.1.toNat)
    ⟨0,rfl,rfl,by omega,.refl _ _ _,fun d h=>by omega⟩ ?_
  rintro ⟨t,_,_⟩ next ⟨c,rfl,rfl,h1,U,W⟩ hn
  dsimp only at U W ⊢
  have hlt:=U.len
  refine AB (fun hb=>?_) (fun hb=>?_)
  · refine Ab6 (by omega) (by omega) (by omega) fun u u1 u2=>?_
    rw [show (20:Int)=((20:Nat):Int) from rfl,dT (by omega) (by omega)]
    refine hn _ ⟨c+1,by dsimp only; congr 1,by dsimp only; congr 1,by omega,U.trans (u1.wide (by omega) (by omega)),fun d hd=>?_⟩ (by dsimp only; omega)
    dsimp only
    by_cases e:d=c
    · subst e; exact u2
    · intro i j G D J
      rw [u1.out i (.inl (by omega)),u1.out j (.inl (by omega))]
      exact W d (by omega) i j G D J
  · refine Ab6 (by omega) (by omega) (by omega) fun u u1 u2=>?_
    have h4:∀ d,BlkC u 20 s.length d:=fun d i j G D J k4=>by
      by_cases e:d<c
      · rw [u1.out i (.inl (by omega)),u1.out j (.inl (by omega))]
        exact W d e i j (by omega) D (by omega)
      · exact u2 i j (by omega) D (by omega)
    have h5:=U.trans (u1.wide (a':=0) (b':=s.length) (by omega) (by omega))
    clear u1 u2 hn W U hb h1
    refine EB (fun O:List AM×Int=>∃ bs:Nat,O.2=(bs:Int)∧0<bs∧SpC 0 s.length s O.1∧∀ d,BlkC O.1 bs s.length d) (fun O=>s.length - O.2.toNat) ⟨20,rfl,by omega,h5,h4⟩ ?_
    clear h4 h5 u hlt t c
    rintro ⟨u,_⟩ next ⟨bs,rfl,b0,U,W⟩ hn
    dsimp only at U W ⊢
    refine AB (fun hb=>?_) (fun hb=>hQ u U.perm fun i j G D J=>W 0 i j (by omega) D (by omega) J)
    have two:AJ (2*(bs:Int))=((2*bs:Nat):Int):=by rw [BE (by omega) (by omega)]; omega
    have two':AJ ((bs:Int)*2)=((2*bs:Nat):Int):=by rw [BE (by omega) (by omega)]; omega
    rw [two,two']
    have up:∀ c:Nat,(2*(c+1))*bs=(2*c)*bs+2*bs:=fun c=>by rw [show 2*(c+1)=2*c+2 by omega,Nat.add_mul]
    have up1:∀ c:Nat,(2*c+1)*bs=(2*c)*bs+bs:=fun c=>by rw [Nat.add_mul,Nat.one_mul]
    have Y:∀ {x y:Nat},x≤y→x*bs≤y*bs:=fun h=>Nat.mul_le_mul_right bs h
    have V:∀ (w:List AM) (c:Nat),SpC 0 s.length s w→(∀ d,d<c→fM w ((2*d)*bs) ((2*d)*bs+2*bs))→fM w ((2*c)*bs) s.length→s.length<(2*c)*bs+2*bs→next (w,((2*bs:Nat):Int)):=fun w c Z w2 w3 w4=>by
      refine hn _ ⟨2*bs,rfl,by omega,Z,fun d i j G D J k4=>?_⟩ (by dsimp only; omega)
      dsimp only
      have ed:d*(2*bs)=(2*d)*bs:=by rw [Nat.mul_left_comm,Nat.mul_assoc]
      rw [ed] at G J
      rcases Nat.lt_trichotomy d c with e | e | e
      · exact w2 d e i j G D J
      · subst e; exact w3 i j G D k4
      · have:=Y (show 2*(c+1)≤2*d by omega)
        rw [up] at this
        omega
    refine EB (fun O:List AM×Int×Int=>∃ c:Nat,O.2.1=(((2*c)*bs:Nat):Int)∧O.2.2=(((2*c)*bs+2*bs:Nat):Int)∧(2*c)*bs≤s.length∧SpC 0 s.length s O.1∧(∀ d,d<c→fM O.1 ((2*d)*bs) ((2*d)*bs+2*bs))∧∀ d,2*c≤d→BlkC O.1 bs s.length d) (fun O=>s.length - O.2.1.toNat)
      ⟨0,by simp,by simp,by omega,U,fun d h=>by omega,fun d _=>W d⟩ ?_
    clear U W hn
    rintro ⟨v,_,_⟩ nx ⟨c,rfl,rfl,h1,U,W,h4⟩ hx
    dsimp only at U W h4 ⊢
    have hlv:=U.len
    have hA:∀ i j,(2*c)*bs≤i→i<j→j<(2*c)*bs+bs→j<s.length→lL (gC v i) (gC v j):=h4 (2*c) (Nat.le_refl _)
    have hB:∀ i j,(2*c)*bs+bs≤i→i<j→j<(2*c)*bs+bs+bs→j<s.length→lL (gC v i) (gC v j):=by
      have:=h4 (2*c+1) (by omega)
      unfold BlkC at this
      rw [up1] at this
      exact this
    have upc:=up c
    refine AB (fun hbn=>?_) (fun hbn=>?_)
    · rw [dT (i:=2*c*bs) (k:=bs) (by omega) (by omega),dT (i:=2*c*bs+2*bs) (k:=2*bs) (by omega) (by omega)]
      refine AeE (by omega) (by omega) (by omega) (by omega) (fun i j G D J=>hA i j G D J (by omega)) (fun i j G D J=>hB i j G D (by omega) (by omega)) fun w Z w2=>?_
      refine hx _ ⟨c+1,by dsimp only; rw [up],by dsimp only; rw [up],by omega,U.trans (Z.wide (by omega) (by omega)),fun d hd=>?_,fun d hd=>?_⟩ (by dsimp only; omega)
      · dsimp only
        by_cases e:d=c
        · subst e; exact w2
        · have hm:=Y (show 2*(d+1)≤2*c by omega)
          rw [up] at hm
          intro i j G D J
          rw [Z.out i (.inl (by omega)),Z.out j (.inl (by omega))]
          exact W d (by omega) i j G D J
      · dsimp only
        have hm:=Y hd
        rw [up] at hm
        exact (h4 d (by omega)).same fun i G D=>Z.out i (.inr (by omega))
    · rw [dT (i:=2*c*bs) (k:=bs) (by omega) (by omega)]
      refine AB (fun hm=>?_) (fun hm=>?_)
      · refine AeE (by omega) (by omega) (by omega) (by omega) (fun i j G D J=>hA i j G D J (by omega)) (fun i j G D J=>hB i j G D (by omega) J) fun w Z w2=>?_
        refine V w c (U.trans (Z.wide (by omega) (by omega))) (fun d hd=>?_) w2 (by omega)
        have hm:=Y (show 2*(d+1)≤2*c by omega)
        rw [up] at hm
        intro i j G D J
        rw [Z.out i (.inl (by omega)),Z.out j (.inl (by omega))]
        exact W d hd i j G D J
      · exact V v c U W (fun i j G D J=>hA i j G D (by omega) J) (by omega)
def UU (c:AM):FI:=(c.Row,c.Col)
def vL (k:FI) (c:AM):Option AN:=if UU c=k then some c.Val else none
def GP (r:Int) (k:FI):List AM→Option AN
  | []=>none
  | c :: l=>jP r (vL k c) (GP r k l)
def vN (l:List AM):Prop:=∀ c∈l,NH c.Val
def StrC (l:List AM):Prop:=l.Pairwise jQ
theorem lM {k:FI} {c:AM} (h:NH c.Val):okO (vL k c):=fun w D=>by unfold vL at D; split at D <;> cases D; exact h
theorem AgH {r:Int} {a b:Option AN} (D:okO a) (G:okO b):okO (jP r a b):=by
  intro w h
  cases a with
  | none=>exact G w h
  | some x=>cases b with
    | none=>exact D w h
    | some y=>cases h; exact TZ (D x rfl) (G y rfl)
theorem ZQ {r:Int} {k:FI}:∀ {l:List AM},vN l→okO (GP r k l)
  | [],_=>fun w G=>by cases G
  | c :: l,h=>AgH (lM (h c (by simp))) (ZQ fun d D=>h d (List.mem_cons_of_mem _ D))
theorem PN {r:Int} {k:FI}:∀ {xs ys:List AM},vN xs→vN ys→GP r k (xs++ys)=jP r (GP r k xs) (GP r k ys)
  | [],ys,_,_=>rfl
  | c :: l,ys,h,h'=>by
    have hl:vN l:=fun d D=>h d (List.mem_cons_of_mem _ D)
    rw [List.cons_append,GP,GP,PN hl h',WL (lM (h c (by simp))) (ZQ hl) (ZQ h')]
theorem vO {xs ys:List AM} (h:xs.Perm ys) (D:vN xs):vN ys:=fun c G=>D c (h.mem_iff.2 G)
theorem AeG {r:Int} {k:FI} {xs ys:List AM} (h:xs.Perm ys) (D:vN xs):GP r k xs=GP r k ys:=by
  induction h with
  | nil=>rfl
  | cons c h Y=>rw [GP,GP,Y fun d O=>D d (List.mem_cons_of_mem _ O)]
  | swap a b l=>
    have G:=lM (k:=k) (D a (by simp))
    have J:=lM (k:=k) (D b (by simp))
    have W:=ZQ (r:=r) (k:=k) (l:=l) fun d O=>D d (by simp [O])
    rw [GP,GP,GP,GP,←WL J G W,←WL G J W,Ae5 G J]
  | trans G J V U=>exact (V D).trans (U (vO G D))
theorem vP {r:Int} {k:FI}:∀ {l:List AM},(∀ c∈l,UU c≠k)→GP r k l=none
  | [],_=>rfl
  | c :: l,h=>by
    rw [GP,vP fun d D=>h d (List.mem_cons_of_mem _ D)]
    unfold vL
    rw [if_neg (h c (by simp))]; rfl
theorem yX {a b:AM} (h:jQ a b):UU a≠UU b:=fun e=>by unfold jQ at h; unfold UU at e; rw [e] at h; exact FC _ h
theorem rU {r:Int}:∀ {l:List AM},StrC l→∀ {c:AM},c∈l↔GP r (UU c) l=some c.Val
  | [],_,c=>by simp [GP]
  | d :: l,h,c=>by
    unfold StrC at h
    rw [List.pairwise_cons] at h
    rw [GP,List.mem_cons]
    by_cases e:UU d=UU c
    · rw [vP (fun x J=>by rw [←e]; exact (yX (h.1 x J)).symm)]
      unfold vL
      rw [if_pos e,OE]
      constructor
      · rintro (rfl | D)
        · rfl
        · exact absurd e (yX (h.1 c D))
      · intro G
        left
        have hv':=Option.some.inj G
        clear G
        unfold UU at e
        cases c; cases d
        simp only [Prod.mk.injEq] at e hv'
        obtain ⟨rfl,rfl⟩:=e
        rw [hv']
    · unfold vL
      rw [if_neg e]
      show _↔GP r (UU c) l=some c.Val
      rw [←rU h.2]
      constructor
      · rintro (rfl | D)
        · exact absurd rfl e
        · exact D
      · exact .inr
theorem StrC.nodup {l:List AM} (h:StrC l):l.Nodup:=by
  rw [List.nodup_iff_pairwise_ne]
  exact List.Pairwise.imp (R:=jQ) (fun {a b} D (e:a=b)=>yX D (by rw [e])) h
theorem AeH {r:Int} {s t:List AM} (G:StrC s) (D:StrC t) (h:∀ k,GP r k s=GP r k t):s=t:=
  ZD ((List.perm_ext_iff_of_nodup G.nodup D.nodup).2 fun c=>by rw [rU (r:=r) G,rU (r:=r) D,h]) G D fun a b _ _ J O=>absurd (LB J O) (FC _)
theorem AgI {l:List AM} (h:∀ (j:Nat) (h1:j+1<l.length),jQ l[j] l[j+1]):StrC l:=by
  unfold StrC
  rw [List.pairwise_iff_getElem]
  intro i j hi G D
  obtain ⟨d,rfl⟩:∃ d,j=i+1+d:=⟨j - i - 1,by omega⟩
  clear D
  induction d with
  | zero=>exact h i G
  | succ d J=>exact LB (J (by omega)) (h (i+1+d) G)
theorem nR {l:List AM} {Q:Bool→Prop} (hl:l.length≤1000000) (J:StrC l→Q true) (V:¬StrC l→Q false):KN l Q:=by
  unfold KN
  refine DC l.length (by omega) (fun i=>∀ (j:Nat) (J:j+1<l.length),j+1<i→jQ l[j] l[j+1]) (fun j _ h=>by omega) (fun i next hi G O=>?_) (fun next G=>?_)
  · refine AB (fun _=>AB (fun hp=>?_) (fun hp=>O fun j _ h=>by omega)) (fun h=>by omega)
    obtain ⟨i,rfl⟩:∃ q,i=q+1:=⟨i - 1,by omega⟩
    rw [fN (by omega) (by omega),Nat.add_sub_cancel]
    refine AW (by omega) (AW hi (VX (AB (fun U=>V fun W=>?_) (fun U=>O fun j D h=>?_))))
    · have:=(VL l[i] l[i+1]).2 (List.pairwise_iff_getElem.1 W i (i+1) (by omega) hi (by omega))
      omega
    · by_cases e:j=i
      · subst e; exact (VL l[j] l[j+1]).1 (by omega)
      · exact G j D (by omega)
  · exact AB (fun h=>by omega) (fun _=>J (AgI fun j D=>G j D D))
theorem vQ {x y:AM}:xU (PL x.Row y.Row) (PL x.Col y.Col)=0↔UU x=UU y:=by
  unfold xU PL UU
  simp only [Prod.mk.injEq]
  split <;> split <;> (try split) <;> (try split) <;> omega
theorem yY {L:List (List AM)} {Q:List AM→Prop} (hl:L.length≤1000000) (hf:L.flatten.length≤100000000) (Z:Q L.flatten):DM L Q:=by
  unfold DM FQ
  have W:∀ {i:Nat} (h:i<L.length),(L.take (i+1)).flatten=(L.take i).flatten++L[i]:=fun h=>by rw [List.take_succ_eq_append_getElem h,List.flatten_append]; simp
  have Y:∀ i:Nat,(L.take i).flatten.length≤L.flatten.length:=fun i=>by
    conv=>rhs; rw [←List.take_append_drop i L,List.flatten_append,List.length_append]
    omega
  refine AV (fun (s:Int) i=>(s,i)) 0 L.length (by omega) (fun i s=>s=((L.take i).flatten.length:Nat)) (by omega) rfl (fun i s next _ hi J U=>?_) (fun s next J=>?_)
  · subst J
    have V:=Y (i+1)
    have O:=W hi
    rw [O,List.length_append] at V
    refine AB (fun _=>AW hi ?_) (fun h=>by omega)
    rw [dT (by omega) (by omega)]
    exact AB (fun h=>by omega) (fun _=>U _ (by rw [O,List.length_append]))
  · subst J
    refine AB (fun h=>by omega) (fun _=>?_)
    rw [List.take_length,BE (x:=0 - 0) (by omega) (by omega),BE (x:=((L.flatten.length:Nat):Int) - (0 - 0)) (by omega) (by omega)]
    have hk:BB (fun (s:(List AM)×Int) (D:((List AM)×Int)→Prop)=>match s with | (s266,s270)=>AR (decide (s270<(L.length:Int))) (AY L s270 fun G=>FX 32 s266 G fun _=>D ((s266++G),AJ (s270+1))) (Q s266)) ([],0):=by
      refine AV (fun (s:List AM) i=>(s,i)) 0 L.length (by omega) (fun i s=>s=(L.take i).flatten) (by omega) rfl (fun i s next _ hi J U=>?_) (fun s next J=>?_)
      · subst J
        have V:=Y (i+1)
        have O:=W hi
        rw [O,List.length_append] at V
        refine AB (fun _=>AW hi (BA (by omega) (U _ O.symm))) (fun h=>by omega)
      · subst J
        refine AB (fun h=>by omega) (fun _=>?_)
        rw [List.take_length]; exact Z
    exact AB (fun h=>by omega) (fun _=>AB (fun h=>⟨by omega,by omega,hk⟩) (fun h=>hk))
theorem nS {r:Int} {L:List (List AM)} {Q:List AM×Int→Prop} (hl:L.length≤1000000) (hf:L.flatten.length≤1000000) (hok:vN L.flatten) (h8:¬(1≤r∧r≤5)→Q ([],8)) (h6:(1≤r∧r≤5)→¬(∀ l∈L,StrC l)→Q ([],6))
    (h0:(1≤r∧r≤5)→(∀ l∈L,StrC l)→∀ s,StrC s→vN s→s.length≤L.flatten.length→(∀ k,GP r k s=GP r k L.flatten)→Q (s,0)):PC r L Q:=by
  unfold PC
  refine KQ (CP (fun h=>h8 (of_decide_eq_false h)) (fun h=>?_))
  have hr:=of_decide_eq_true h
  unfold DG DR PB
  have elen:∀ l∈L,l.length≤1000000:=fun l hm=>by
    have:=(List.sublist_flatten_of_mem hm).length_le
    omega
  refine DC L.length (by omega) (fun i=>∀ (q:Nat) (hq:q<L.length),q<i→StrC L[q]) (fun q _ h=>by omega) (fun i next hi hm hn=>?_) (fun next hm=>?_)
  · refine AB (fun _=>AW hi (nR (elen _ (List.getElem_mem hi)) (fun hs=>AO rfl (hn fun q hq hqi=>?_)) (fun hs=>AX rfl (AX (decide_eq_true (by omega)) (h6 hr fun ha=>hs (ha _ (List.getElem_mem hi))))))) (fun h=>by omega)
    by_cases e:q=i
    · subst e; exact hs
    · exact hm q hq (by omega)
  refine AB (fun h=>by omega) (fun _=>AO (by decide) (yY hl (by omega) (AeF (by omega) fun t hp hs=>?_)))
  have hall:∀ l∈L,StrC l:=fun l J=>by obtain ⟨q,hq,rfl⟩:=List.getElem_of_mem J; exact hm q hq hq
  have Y:vN t:=vO hp.symm hok
  have htl:=hp.length_eq
  have hfin:=h0 hr hall
  refine AV (fun (s:List AM) i=>(s,i)) 0 t.length (by omega) (fun i s=>StrC s∧vN s∧s.length≤i∧(∀ k,GP r k s=GP r k (t.take i))∧(s=[]∧i=0∨∃ p y,s=p++[y]∧0<i∧UU y=UU (gC t (i - 1)))) (by omega) ⟨.nil,(fun c D=>by cases D),Nat.le_refl _,fun _=>rfl,.inl ⟨rfl,rfl⟩⟩ (fun i s next _ hi J hn=>?_) (fun s next J=>?_)
  · obtain ⟨V,m2,m3,m4,m5⟩:=J
    have hx:NH t[i].Val:=Y _ (List.getElem_mem hi)
    have O:vN [t[i]]:=fun c D=>by rw [List.mem_singleton] at D; subst D; exact hx
    have hoti:vN (t.take i):=fun c D=>Y c (List.mem_of_mem_take D)
    have htk:∀ k,GP r k (t.take (i+1))=jP r (GP r k s) (vL k t[i]):=fun k=>by
      rw [List.take_succ_eq_append_getElem hi,PN hoti O,←m4 k,GP,GP,OE]
    have hgi:=rR hi
    refine AB (fun _=>AW hi ?_) (fun h=>by omega)
    have app:StrC (s++[t[i]])→FX 32 s [t[i]] fun _=>next (s++[t[i]],AJ ((i:Int)+1)):=fun hstr=>BA (by simp; omega) (hn _ ⟨hstr,fun c D=>by
        rcases List.mem_append.1 D with h | h
        · exact m2 c h
        · exact O c h,by simp; omega,fun k=>by rw [htk,PN m2 O,GP,GP,OE],.inr ⟨s,t[i],rfl,by omega,by rw [Nat.add_sub_cancel,←hgi]⟩⟩)
    unfold FM
    rcases m5 with ⟨rfl,rfl⟩ | ⟨p,y,rfl,i0,hy⟩
    · exact AB (fun h=>by simp at h) (fun _=>AO rfl (app (by simp [StrC])))
    · have m3':p.length+1≤i:=by simpa using m3
      have Z:(AJ ((((p++[y]).length:Nat):Int) - 1))=((p.length:Nat):Int):=by
        rw [List.length_append,List.length_singleton,fN (by omega) (by omega),Nat.add_sub_cancel]
      rw [Z]
      have G:(p++[y])[p.length]? = some y:=by simp
      refine AB (fun _=>AP (x:=y) (by omega) G (VX (CC (fun he=>?_) (fun he=>?_)))) (fun h=>by simp at h)
      · have U:=vQ.1 he
        have hyo:NH y.Val:=m2 y (by simp)
        refine AP (x:=y) (by omega) G (QR hyo hx (AP (x:=y) (by omega) G ?_))
        rw [show (p++[y]).set ((p.length:Nat):Int).toNat (⟨y.Row,y.Col,EK r y.Val t[i].Val⟩:AM)=p++[⟨y.Row,y.Col,EK r y.Val t[i].Val⟩] by simp]
        have W:vN p:=fun c D=>m2 c (by simp [D])
        have hy1:vN [y]:=fun c D=>by rw [List.mem_singleton] at D; subst D; exact hyo
        have hy2:vN [⟨y.Row,y.Col,EK r y.Val t[i].Val⟩]:=fun c D=>by rw [List.mem_singleton] at D; subst D; exact TZ hyo hx
        refine hn _ ⟨?_,fun c D=>?_,by simp at m3 ⊢; omega,fun k=>?_,.inr ⟨p,_,rfl,by omega,?_⟩⟩
        · unfold StrC at V ⊢
          rw [List.pairwise_append] at V ⊢
          refine ⟨V.1,by simp,fun a ha b hb=>?_⟩
          rw [List.mem_singleton] at hb; subst hb
          exact V.2.2 a ha y (by simp)
        · rcases List.mem_append.1 D with h | h
          · exact W c h
          · exact hy2 c h
        · rw [htk,PN W hy2,PN W hy1,WL (ZQ W) (ZQ hy1) (lM hx)]
          congr 1
          rw [GP,GP,OE,GP,GP,OE]
          unfold vL
          by_cases ek:UU y=k
          · rw [if_pos (show UU ⟨y.Row,y.Col,EK r y.Val t[i].Val⟩=k from ek),if_pos ek,if_pos (U.symm.trans ek)]; rfl
          · rw [if_neg (show ¬UU ⟨y.Row,y.Col,EK r y.Val t[i].Val⟩=k from ek),if_neg ek,if_neg (fun h=>ek (U.trans h))]; rfl
        · rw [Nat.add_sub_cancel,←hgi]; exact U
      · have hne:UU y≠UU t[i]:=fun h=>he (vQ.2 h)
        refine app ?_
        have hle:lL (gC t (i - 1)) (gC t i):=hs _ _ (by omega) (by omega) (by omega)
        rw [←hgi] at hle
        have hyx:jQ y t[i]:=jL (a:=UU t[i]) (b:=UU y) (by rw [hy]; exact hle) fun e=>hne e.symm
        unfold StrC at V ⊢
        rw [List.pairwise_append]
        refine ⟨V,by simp,fun a ha b hb=>?_⟩
        rw [List.mem_singleton] at hb; subst hb
        rcases List.mem_append.1 ha with h | h
        · rw [List.pairwise_append] at V
          exact LB (V.2.2 a h y (by simp)) hyx
        · rw [List.mem_singleton] at h; subst h; exact hyx
  · obtain ⟨V,m2,m3,m4,m5⟩:=J
    refine AB (fun h=>by omega) (fun _=>hfin s V m2 (by omega) fun k=>?_)
    rw [m4,List.take_length]
    exact AeG hp Y
theorem GI {G D:Int} {T:List AD} (h:Canon G D T) {l u c d:Int} (l0:0≤l) (l1:l≤u) (l2:u≤G) (h0:0≤c) (h1:c≤d) (h2:d≤D) :
    rD G D T (l,u) (c,d)=BM (u - l) (d - c) (LZ l u c d T)∧Canon (u - l) (d - c) (LZ l u c d T)∧∀ i j:Int,0≤i→i<u - l→0≤j→j<d - c→XS (fJ (LZ l u c d T) i) j=XS (fJ T (i+l)) (j+c):=by
  have W:nN l=l:=by unfold nN; split <;> omega
  have U:tI u G=u:=by unfold tI; split <;> omega
  have e3:ext l u G=u - l:=by unfold ext; rw [W,U]; split <;> omega
  have Z:nN c=c:=by unfold nN; split <;> omega
  have V:tI d D=d:=by unfold tI; split <;> omega
  have e6:ext c d D=d - c:=by unfold ext; rw [Z,V]; split <;> omega
  have Y:=pB h (l,u) (c,d)
  simp only [W,U,e3,Z,V,e6] at Y
  refine ⟨by unfold rD; simp only [W,U,e3,Z,V,e6],Y,fun i j J hi1 hj0 hj1=>AgE fun a=>?_⟩
  rw [WN Y J,WN h (by omega),AaZ]
  exact ⟨fun O=>O.1,fun O=>⟨O,⟨J,by dsimp only; omega⟩,hj0,by dsimp only; omega⟩⟩
theorem vR {l u c d:Int} {T:List AD} (h:∀ t∈T,FL t.Val):∀ t∈LZ l u c d T,FL t.Val:=fun t D=>by
  have:=h _ ((AaZ t).1 D).1
  exact this
theorem ZR {r:Int} {k:FI} {A B:List AD} {t:AD} {M:List AD}:GP r k (FS r A B (t :: M))=jP r (if (t.Row,t.Col)=k then NB r A B t.Row t.Col else none) (GP r k (FS r A B M)):=by
  unfold FS
  rw [List.filterMap_cons]
  unfold IA
  cases hw:NB r A B t.Row t.Col with
  | none=>simp [jP]
  | some w=>
    simp only [Option.map_some,GP]
    rfl
theorem OG {r:Int} {k:FI} {A B:List AD}:∀ {M:List AD},(∀ t∈M,(t.Row,t.Col)≠k)→GP r k (FS r A B M)=none
  | [],_=>rfl
  | t :: M,h=>by rw [ZR,if_neg (h t (by simp)),OG fun u D=>h u (List.mem_cons_of_mem _ D)]; rfl
theorem pG {r:Int} {k:FI} {A B U J G O:List AD}:∀ {M:List AD},Srt M→(∀ t∈M,NB r A B t.Row t.Col=jP r (NB r U J t.Row t.Col) (NB r G O t.Row t.Col)) →
    GP r k (FS r A B M)=jP r (GP r k (FS r U J M)) (GP r k (FS r G O M))
  | [],_,_=>rfl
  | t :: M,hs,h=>by
    unfold Srt at hs
    rw [List.pairwise_cons] at hs
    rw [ZR,ZR,ZR]
    by_cases e:(t.Row,t.Col)=k
    · have hn:∀ u∈M,(u.Row,u.Col)≠k:=fun u D V=>by
        have:=hs.1 u D
        unfold key at this
        rw [e,V] at this
        exact FC _ this
      rw [if_pos e,if_pos e,if_pos e,OG hn,OG hn,OG hn,OE,OE,OE]
      exact h t (by simp)
    · rw [if_neg e,if_neg e,if_neg e]
      exact pG hs.2 fun u D=>h u (List.mem_cons_of_mem _ D)
theorem fP {r:Int} {A B M:List AD} {D cm:Int} (G:Canon D cm M):StrC (FS r A B M)∧vN (FS r A B M)∧(FS r A B M).length≤65536:=by
  have h:=jR (r:=r) (ra:=0) (ca:=0) (rb:=0) (cb:=0) (A:=A) (B:=B) G
  exact ⟨h.inc,h.ok,h.len⟩
def XT (n k:Int):Prop:=(0≤n∧n≤4096)∧(1≤k∧k≤8)
instance (n k:Int):Decidable (XT n k):=by unfold XT; infer_instance
def vS (i k:Int):Int:=if i<0 then 0 else if k<i then k else i
def CY (n k i:Int):Int:=if XT n k then vS i k*n / k else 0
theorem AhK {i k:Int} (h:1≤k):0≤vS i k∧vS i k≤k:=by unfold vS; split <;> (try split) <;> omega
theorem AeI {i j k:Int} (h:i≤j) (hk:1≤k):vS i k≤vS j k:=by unfold vS; split <;> split <;> (try split) <;> (try split) <;> omega
theorem AjW {i k n:Int} (hk:1≤k∧k≤8) (h:0≤n∧n≤4096) (hi:0≤i∧i≤k):0≤i*n∧i*n≤32768:=by
  refine ⟨Int.mul_nonneg hi.1 h.1,?_⟩
  have:=Int.mul_le_mul (show i≤8 by omega) h.2 h.1 (by omega)
  omega
theorem YO {n k i j:Int} (h:i≤j):CY n k i≤CY n k j:=by
  unfold CY
  by_cases hm:XT n k
  · rw [if_pos hm,if_pos hm]
    exact Int.ediv_le_ediv (by have:=hm.2; omega) (Int.mul_le_mul_of_nonneg_right (AeI h hm.2.1) hm.1.1)
  · rw [if_neg hm,if_neg hm]; exact Int.le_refl _
theorem vT (n k:Int):CY n k 0=0:=by
  unfold CY vS; split
  · rename_i h
    have h1:=h.2.1
    rw [if_neg (by omega),if_neg (by omega),Int.zero_mul,Int.zero_ediv]
  · rfl
theorem ZS {n k:Int} (h:XT n k):CY n k k=n:=by
  unfold CY vS
  have h1:=h.2.1
  rw [if_pos h,if_neg (by omega),if_neg (by omega),Int.mul_comm,Int.mul_ediv_cancel _ (by omega)]
theorem pH {n k i:Int}:0≤CY n k i∧(0≤n→CY n k i≤n):=by
  by_cases hm:XT n k
  · have D:=AhK (i:=i) hm.2.1
    refine ⟨?_,fun _=>?_⟩
    · unfold CY; rw [if_pos hm]; exact Int.ediv_nonneg (Int.mul_nonneg D.1 hm.1.1) (by have:=hm.2; omega)
    · by_cases hi:i≤k
      · have:=YO (n:=n) hi (k:=k); rwa [ZS hm] at this
      · have h1:=hm.2.1
        have e:CY n k i=n:=by
          unfold CY vS
          rw [if_pos hm,if_neg (by omega),if_pos (by omega),Int.mul_comm,Int.mul_ediv_cancel _ (by omega)]
        omega
  · unfold CY; rw [if_neg hm]; exact ⟨by omega,fun h=>h⟩
theorem YP {α:Type} {p q r:α→Bool}:∀ {l:List α},(∀ x∈l,r x=(p x || q x))→(∀ x∈l,¬(p x=true∧q x=true))→(l.filter p++l.filter q).Perm (l.filter r)
  | [],_,_=>by simp
  | x :: l,h,h'=>by
    have ih:=YP (fun y D=>h y (List.mem_cons_of_mem _ D)) (fun y D=>h' y (List.mem_cons_of_mem _ D))
    have G:=h x List.mem_cons_self
    have J:=h' x List.mem_cons_self
    cases hp:p x with
    | true=>
      cases hq:q x with
      | true=>exact absurd ⟨hp,hq⟩ J
      | false=>
        rw [List.filter_cons_of_pos hp,List.filter_cons_of_neg (by simp [hq]),List.filter_cons_of_pos (by rw [G,hp]; rfl)]
        exact ih.cons x
    | false=>
      cases hq:q x with
      | true=>
        rw [List.filter_cons_of_neg (by simp [hp]),List.filter_cons_of_pos hq,List.filter_cons_of_pos (by rw [G,hp,hq]; rfl)]
        exact List.perm_middle.trans (ih.cons x)
      | false=>
        rw [List.filter_cons_of_neg (by simp [hp]),List.filter_cons_of_neg (by simp [hq]),List.filter_cons_of_neg (by rw [G,hp,hq]; simp)]
        exact ih
theorem YQ {α:Type} {f:α→Int} {b:Nat→Int} {l:List α} (G:∀ i j,i≤j→b i≤b j) (D:∀ x∈l,b 0≤f x):∀ m:Nat,
    ((List.range m).flatMap fun i=>l.filter fun x=>decide (b i≤f x∧f x<b (i+1))).Perm (l.filter fun x=>decide (f x<b m))
  | 0=>by
    rw [List.filter_eq_nil_iff.2 (fun x h=>by have:=D x h; simp only [decide_eq_true_eq]; omega)]; simp
  | m+1=>by
    rw [List.range_succ,List.flatMap_append,List.flatMap_singleton]
    refine ((YQ G D m).append_right _).trans (YP (fun x h=>?_) (fun x h=>?_))
    · have:=G m (m+1) (by omega)
      rw [Bool.eq_iff_iff]
      simp only [Bool.or_eq_true,decide_eq_true_eq]; omega
    · simp only [decide_eq_true_eq]; omega
theorem dU {α β:Type} {f g:α→List β}:∀ {l:List α},(∀ x∈l,(f x).Perm (g x))→(l.flatMap f).Perm (l.flatMap g)
  | [],_=>by simp
  | x :: l,h=>by
    rw [List.flatMap_cons,List.flatMap_cons]
    exact (h x List.mem_cons_self).append (dU fun y D=>h y (List.mem_cons_of_mem _ D))
theorem OH {α β:Type} {f g:α→List β} {l:List α} (h:∀ x∈l,f x=g x):l.flatMap f=l.flatMap g:=by
  induction l with
  | nil=>rfl
  | cons x l G=>rw [List.flatMap_cons,List.flatMap_cons,h x List.mem_cons_self,G fun y D=>h y (List.mem_cons_of_mem _ D)]
theorem pI {β:Type} {q:Nat} (D:0<q) (F:Nat→Nat→List β):∀ p:Nat,((List.range (p*q)).flatMap fun k=>F (k / q) (k % q))=(List.range p).flatMap fun i=>(List.range q).flatMap fun j=>F i j
  | 0=>by simp
  | p+1=>by
    rw [Nat.succ_mul,List.range_add,List.flatMap_append,pI D F p,List.range_succ,List.flatMap_append,List.flatMap_singleton,List.flatMap_map]
    congr 1
    refine OH fun j h=>?_
    have h:=List.mem_range.1 h
    rw [Nat.mul_comm p q,Nat.mul_add_div D,Nat.div_eq_of_lt h,Nat.mul_add_mod,Nat.mod_eq_of_lt h,Nat.add_zero]
def shT (a b:Int) (t:AD):AD:=⟨t.Row+a,t.Col+b,t.Val⟩
theorem AeJ {l h c d:Int} {T:List AD}:(LZ l h c d T).map (shT l c)=T.filter fun t=>decide ((l≤t.Row∧t.Row<h)∧(c≤t.Col∧t.Col<d)):=by
  unfold LZ
  rw [List.map_map]
  conv=>rhs; rw [←List.map_id (List.filter _ T)]
  refine List.map_congr_left fun t _=>?_
  cases t; simp only [Function.comp_apply,shT,id_eq,AD.mk.injEq]; exact ⟨by omega,by omega,trivial⟩
theorem vU {D G:Int} {T:List AD} (h:Canon D G T) {p q:Nat} (hp:XT D p) (V:XT G q) :
    ((List.range p).flatMap fun i:Nat=>(List.range q).flatMap fun j:Nat=>(LZ (CY D p i) (CY D p ((i:Int)+1)) (CY G q j) (CY G q ((j:Int)+1)) T).map (shT (CY D p i) (CY G q j))).Perm T:=by
  have e:∀ i:Nat,((List.range q).flatMap fun j:Nat=>(LZ (CY D p i) (CY D p ((i:Int)+1)) (CY G q j) (CY G q ((j:Int)+1)) T).map (shT (CY D p i) (CY G q j))).Perm (T.filter fun t=>decide (CY D p i≤t.Row∧t.Row<CY D p ((i:Int)+1))):=by
    intro i
    have O:=YQ (f:=fun t:AD=>t.Col) (b:=fun j:Nat=>CY G q j) (l:=T.filter fun t=>decide (CY D p i≤t.Row∧t.Row<CY D p ((i:Int)+1))) (fun i j U=>YO (by omega)) (fun t J=>by
      have:=(h.inn t (List.mem_filter.1 J).1).2.2.1
      simp only [Int.natCast_zero]; rw [vT]; exact this) q
    refine List.Perm.trans (List.Perm.of_eq (OH fun j _=>?_)) (O.trans (List.Perm.of_eq ?_))
    · rw [AeJ,List.filter_filter]
      refine List.filter_congr fun t _=>?_
      rw [Bool.eq_iff_iff]
      simp only [Bool.and_eq_true,decide_eq_true_eq,Int.natCast_add,Int.natCast_one]
      exact ⟨fun h=>⟨h.2,h.1⟩,fun h=>⟨h.2,h.1⟩⟩
    · refine List.filter_eq_self.2 fun t J=>?_
      have:=(h.inn t (List.mem_filter.1 J).1).2.2.2
      rw [ZS V]; simpa using this
  refine (dU fun i _=>e i).trans ?_
  have O:=YQ (f:=fun t:AD=>t.Row) (b:=fun j:Nat=>CY D p j) (l:=T) (fun i j U=>YO (by omega)) (fun t J=>by
    have:=(h.inn t J).1
    simp only [Int.natCast_zero]; rw [vT]; exact this) p
  refine O.trans (List.Perm.of_eq ?_)
  refine List.filter_eq_self.2 fun t J=>?_
  have:=(h.inn t J).2.1
  rw [ZS hp]; simpa using this
theorem toQ {P:Prop} [Decidable P] {b:Bool} {Q:Bool→Prop} (D:Q (decide P)) (h:b=true↔P):Q b:=by
  have:decide P=b:=by rw [Bool.eq_iff_iff,decide_eq_true_iff]; exact h.symm
  rwa [this] at D
theorem VO {n k:Int} {Q:Bool→Prop} (h:Q (decide (XT n k))):TG n k Q:=by
  unfold TG OZ
  refine AB (fun a=>AB (fun b=>AB (fun c=>toQ h ?_) (fun c=>toQ h ?_)) (fun b=>toQ h ?_)) (fun a=>toQ h ?_) <;> (unfold XT; simp; omega)
theorem IM {n k i:Int} {Q:Int→Prop} (J:Q (CY n k i)):GC n k i Q:=by
  unfold GC
  unfold CY at J
  refine VO (CP (fun h=>?_) (fun h=>?_))
  · rwa [if_neg (of_decide_eq_false h)] at J
  · have D:=of_decide_eq_true h
    rw [if_pos D] at J
    have e:(if k<(if 0 > i then 0 else i) then k else (if 0 > i then 0 else i))=vS i k:=by
      unfold vS; have:=D.2; split <;> split <;> (try split) <;> (try split) <;> omega
    rw [e]
    have G:=AjW D.2 D.1 (AhK (i:=i) D.2.1)
    have hk:=D.2
    refine ⟨by omega,?_⟩
    rw [BE (x:=vS i k*n) (by omega) (by omega),Int.tdiv_eq_ediv_of_nonneg G.1]
    have h1:0≤vS i k*n / k:=Int.ediv_nonneg G.1 (by omega)
    have h2:vS i k*n / k≤vS i k*n:=Int.ediv_le_self _ G.1
    rwa [BE (by omega) (by omega)]
theorem AjX {n k i:Int} (h0:0≤i) (h:i<k):CY n k (AJ (i+1))=CY n k (i+1):=by
  by_cases hm:XT n k
  · have:=hm.2
    rw [BE (by omega) (by omega)]
  · unfold CY; rw [if_neg hm,if_neg hm]
def UF (k:Int):Prop:=1≤k∧k≤8
instance (k:Int):Decidable (UF k):=by unfold UF; infer_instance
def pJ (r c i j:Int):Prop:=(UF r∧UF c)∧(0≤i∧i<r)∧0≤j∧j<c
instance (r c i j:Int):Decidable (pJ r c i j):=by unfold pJ; infer_instance
theorem aV {k:Int} {Q:Bool→Prop} (h:Q (decide (UF k))):TH k Q:=by
  unfold TH
  refine AB (fun a=>toQ h ?_) (fun a=>toQ h ?_) <;> (unfold UF; simp; omega)
theorem nT {r c i j:Int} {Q:Bool→Prop} (h:Q (decide (pJ r c i j))):WY r c i j Q:=by
  unfold WY
  refine aV (AB (fun a=>aV (AB (fun b=>AB (fun d=>AB (fun e=>AB (fun f=>toQ h ?_) (fun f=>toQ h ?_)) (fun e=>toQ h ?_)) (fun d=>toQ h ?_)) (fun b=>toQ h ?_))) (fun a=>toQ h ?_)) <;> (unfold pJ; unfold UF at *; simp only [Bool.false_eq_true,decide_eq_true_eq,false_iff]; omega)
theorem XO {n k i:Int} {Q:Int×Int→Prop} (G:0≤i) (h:i<k) (D:Q (CY n k i,CY n k (i+1))):NR n k i Q:=by
  unfold NR
  refine IM (IM ?_)
  rw [AjX G h]; exact D
def AiH (h D:Int) (T:List AD) (r c i j:Int):Rows:=if pJ r c i j then rD h D T (CY h r i,CY h r (i+1)) (CY D c j,CY D c (j+1)) else BM 0 0 []
theorem AgJ:iA zR=BM 0 0 []:=if_neg AdT
theorem AeK:rD 0 0 [] (0,0) (0,0)=BM 0 0 []:=by decide
theorem rV {Q:Rows→Prop} (h:Q (BM 0 0 [])):MH zR (0,0) (0,0) Q:=by
  refine X5 AdS AgJ uS ?_
  rw [AeK]; exact h
theorem rW {D G r c i j:Int} {T:List AD} {Q:Rows→Prop} (h:Canon D G T) (O:Q (AiH D G T r c i j)):SN (BM D G T) r c i j Q:=by
  unfold SN
  unfold AiH at O
  refine dM h.sml ?_
  rw [decide_eq_true h.right]
  refine AO rfl (nT (CP (fun J=>?_) (fun J=>?_)))
  · rw [if_neg (of_decide_eq_false J)] at O
    exact rV O
  · have J:=of_decide_eq_true J
    rw [if_pos J] at O
    exact XO J.2.1.1 J.2.1.2 (XO J.2.2.1 J.2.2.2 (X5 h.sml (MU h) h O))
def AiI (a:Rows):Prop:=a.Start.length≤1000000000000∧a.Col.length≤1000000000000
theorem fQ {a:Rows} {Q:Bool→Prop} (G:AiI a) (J:Q (decide (X4 a))):HV a Q:=by
  by_cases hv:a.Val.length=a.Col.length
  · exact dM ⟨G.1,G.2,by have:=G.2; omega⟩ J
  · have D:Q false:=by rwa [decide_eq_false (fun h=>hv h.vl)] at J
    unfold HV
    exact JM (CP (fun _=>D) (fun _=>JM (CP (fun _=>D) (fun _=>FF (fun _=>D) (fun _=>FF (fun _=>D) (fun h=>absurd (by omega) hv))))))
theorem dV {k:Int} {Q:Bool→Prop} (h:Q (decide (UF k))):OZ k Q:=by
  unfold OZ
  refine AB (fun a=>toQ h ?_) (fun a=>toQ h ?_) <;> (unfold UF; simp; omega)
theorem iC {c k:Nat} {Q:Int→Prop} (G:UF c) (hk:k<8*c) (J:Q ((k / c:Nat):Int)):WA c k Q:=by
  unfold WA
  refine dV ?_
  rw [decide_eq_true G]
  have D:=G
  unfold UF at D
  refine AO rfl (AB (fun h=>by omega) (fun _=>?_))
  rw [BE (x:=(c:Int)*8) (by omega) (by omega)]
  refine AB (fun h=>by omega) (fun _=>⟨by omega,?_⟩)
  rw [Int.tdiv_eq_ediv_of_nonneg (by omega),←Int.natCast_ediv]
  have O:k / c≤k:=Nat.div_le_self _ _
  generalize k / c=q at O J ⊢
  rwa [BE (by omega) (by omega)]
theorem vV {c k:Nat} {Q:Int→Prop} (G:UF c) (hk:k<8*c) (hQ:Q ((k % c:Nat):Int)):Y8 c k Q:=by
  unfold Y8
  have D:=G
  unfold UF at D
  refine iC G hk (AB (fun h=>absurd h (Int.not_lt.2 (Int.natCast_nonneg _))) (fun _=>⟨by omega,?_⟩))
  rwa [Int.tmod_eq_emod_of_nonneg (by omega),←Int.natCast_emod]
end Go.Proofs.YtbohadngdkjljaaGreat
