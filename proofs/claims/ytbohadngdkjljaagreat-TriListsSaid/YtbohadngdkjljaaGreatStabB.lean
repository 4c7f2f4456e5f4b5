import Derived.Test.YtbohadngdkjljaaGreatGemmB
namespace Go.Proofs.YtbohadngdkjljaaGreat
open Go Go.Fw
set_option linter.unusedVariables false
set_option linter.unusedSimpArgs false
def jQ (a b:AM):Prop:=NK (a.Row,a.Col) (b.Row,b.Col)
structure Ab4 (rows cols:Int) (l:List AM):Prop where
  inc:l.Pairwise jQ
  inn:∀ c∈l,(0≤c.Row∧c.Row<rows)∧(0≤c.Col∧c.Col<cols)
  ok:∀ c∈l,NH c.Val
  len:l.length≤65536
theorem jR {r ra ca rb cb W cm:Int} {A B M:List AD} (U:Canon W cm M):Ab4 W cm (FS r A B M):=by
  have G:∀ c∈FS r A B M,∃ t∈M,c.Row=t.Row∧c.Col=t.Col∧NH c.Val:=fun c D=>by
    obtain ⟨t,O,he⟩:=List.mem_filterMap.1 D
    unfold IA at he
    cases hw:NB r A B t.Row t.Col with
    | none=>rw [hw] at he; cases he
    | some w=>rw [hw] at he; cases he; exact ⟨t,O,rfl,rfl,pE r _ _ none (fun _ h=>by cases h) w hw⟩
  refine ⟨?_,fun c D=>?_,fun c D=>?_,Nat.le_trans (Ac6 r A B M) U.len⟩
  · refine List.Pairwise.filterMap _ (fun a b V c D d J=>?_) U.srt
    unfold IA at D J
    cases hw:NB r A B a.Row a.Col with
    | none=>rw [hw] at D; cases D
    | some w=>
      cases hu:NB r A B b.Row b.Col with
      | none=>rw [hu] at J; cases J
      | some u=>rw [hw] at D; rw [hu] at J; cases D; cases J; exact V
  · obtain ⟨t,O,h1,h2,_⟩:=G c D
    have:=U.inn t O
    unfold ZZ at this
    omega
  · obtain ⟨t,_,_,_,h⟩:=G c D; exact h
theorem VL (x y:AM):xU (PL x.Row y.Row) (PL x.Col y.Col)<0↔jQ x y:=by
  unfold jQ NK xU PL
  simp only
  split <;> split <;> (try split) <;> omega
theorem VX {x y:AM} {Q:Int→Prop} (h:Q (xU (PL x.Row y.Row) (PL x.Col y.Col))):TO x y Q:=by
  unfold TO
  exact GB (GB (hG h))
theorem nP {l:List AM} {Q:Bool→Prop} (hl:l.length≤1000000) (h:l.Pairwise jQ) (G:Q true):KN l Q:=by
  unfold KN
  refine DC l.length (by omega) (fun _=>True) trivial (fun i next hi _ D=>?_) (fun next _=>?_)
  · refine AB (fun _=>AB (fun hp=>?_) (fun _=>D trivial)) (fun h=>by omega)
    have e:AJ ((i:Int) - 1)=((i - 1:Nat):Int):=by rw [BE (by omega) (by omega)]; omega
    rw [e]
    refine AW (by omega) (AW hi (VX (AB (fun h0=>?_) (fun _=>D trivial))))
    have h1:=(VL l[i - 1] l[i]).2 (List.pairwise_iff_getElem.1 h (i - 1) i (by omega) hi (by omega))
    omega
  · exact AB (fun h=>by omega) (fun _=>G)
def rO (r:Int) (c:AM):Option AD:=if (JC c.Val).1≠zS r then some ⟨c.Row,c.Col,(JC c.Val).1⟩ else none
def WM (r h D:Int) (l:List AM):Rows×Int:=if l.all (fun c=>(JC c.Val).2) then ofS r h D (l.filterMap (rO r)) else (zR,12)
theorem Ae8 (a:AN):FL (JC a).1:=by
  unfold JC FL
  split
  · rw [GW]; omega
  · simp
theorem rP {r:Int} {l:List AM}:∀ t∈l.filterMap (rO r),FL t.Val:=fun t h=>by
  obtain ⟨c,_,he⟩:=List.mem_filterMap.1 h
  unfold rO at he
  split at he
  · cases he; exact Ae8 _
  · cases he
theorem Ac7 {r:Int} {l:List AM} {i:Nat} (hi:i<l.length):(l.take (i+1)).filterMap (rO r)=(l.take i).filterMap (rO r)++(rO r l[i]).toList:=by
  rw [List.take_succ_eq_append_getElem hi,List.filterMap_append]
  congr 1
theorem rQ {r G D:Int} {l:List AM} {Q:Rows×Int→Prop} (hr:1≤r∧r≤5) (h0:(0≤G∧G≤4096)∧(0≤D∧D≤4096)) (h:Ab4 G D l) (hQ:Q (WM r G D l)):ZJ r G D l Q:=by
  unfold ZJ FM
  have hl:=h.len
  refine KQ ?_
  rw [decide_eq_true hr]
  refine AO rfl ?_
  unfold KO
  refine AB (fun _=>CP (fun hn=>by have:=of_decide_eq_false hn; omega) (fun _=>AB (fun _=>?_) (fun h=>by omega))) (fun h=>by omega)
  dsimp only
  rw [show (!decide (D≤4096))=false by simp; omega]
  refine AO rfl ?_
  have hk:KN l fun r155=>AR (!r155) (Q (zR,6)) (AR (decide (65536<(l.length:Int))) (Q (zR,5)) (BB (fun (s:(List AD)×Int) (J:((List AD)×Int)→Prop)=>match s with | (s448,s452)=>AR (decide (s452<(l.length:Int))) (AY l s452 fun O=>IJ r O.Val fun U=>AR (!U.2) (Q (zR,12)) (SP r fun r496=>AR (U.1 != r496) (FX 24 s448 ([({ Row:=O.Row,Col:=O.Col,Val:=U.1 }:AD)]) fun _=>J ((s448++([({ Row:=O.Row,Col:=O.Col,Val:=U.1 }:AD)])),AJ (s452+1))) (J (s448,AJ (s452+1))))) (TM r G D s448 fun W=>Q (W.1,W.2))) (([]:List AD),0))):=by
    refine nP (by omega) h.inc (AO rfl (AB (fun h=>by omega) (fun _=>?_)))
    refine AV (fun (s:List AD) i=>(s,i)) 0 l.length (by omega) (fun i s=>s=(l.take i).filterMap (rO r)∧∀ q (Z:q<l.length),q<i→(JC l[q].Val).2=true) (by omega) ⟨rfl,fun q Z h=>by omega⟩ (fun i s next _ hi hm hn=>?_) (fun s next hm=>?_)
    · obtain ⟨rfl,Y⟩:=hm
      have hst:=Ac7 (r:=r) hi
      have hlk:=List.length_filterMap_le (rO r) (l.take i)
      rw [List.length_take] at hlk
      refine AB (fun _=>AW hi (ZN (h.ok _ (List.getElem_mem hi)) ?_)) (fun h=>by omega)
      cases hb:(JC l[i].Val).2 with
      | false=>
        refine AX rfl ?_
        unfold WM at hQ
        rw [if_neg (fun ha=>by have:=List.all_eq_true.1 ha l[i] (List.getElem_mem hi); rw [hb] at this; cases this)] at hQ
        exact hQ
      | true=>
        have V:∀ q (Z:q<l.length),q<i+1→(JC l[q].Val).2=true:=fun q Z hqi=>by
          by_cases e:q=i
          · subst e; exact hb
          · exact Y q Z (by omega)
        refine AO rfl (dR (FF (fun hz=>BA (by simp; omega) (hn _ ⟨?_,V⟩)) (fun hz=>hn _ ⟨?_,V⟩)))
        · rw [hst]; unfold rO; rw [if_pos hz]; rfl
        · rw [hst]; unfold rO; rw [if_neg (fun h=>h hz)]; simp
    · obtain ⟨rfl,Y⟩:=hm
      refine AB (fun h=>by omega) (fun _=>?_)
      rw [List.take_length]
      have hlk:=List.length_filterMap_le (rO r) l
      unfold WM at hQ
      rw [if_pos (List.all_eq_true.2 fun c hc=>by obtain ⟨q,Z,rfl⟩:=List.getElem_of_mem hc; exact Y q Z Z)] at hQ
      exact AdP (by omega) rP hQ
  unfold DH DS QY KO
  have e1:AJ (G - 1)=G - 1:=BE (by omega) (by omega)
  have e2:AJ (D - 1)=D - 1:=BE (by omega) (by omega)
  rw [e1,e2]
  refine DC l.length (by omega) (fun _=>True) trivial (fun i next hi _ hn=>?_) (fun next _=>?_)
  · have hc:=h.inn _ (List.getElem_mem hi)
    refine AB (fun _=>AW hi (AB (fun _=>CP (fun hb=>by have:=of_decide_eq_false hb; omega) (fun _=>AB (fun _=>?_) (fun h=>by omega))) (fun h=>by omega))) (fun h=>by omega)
    dsimp only
    rw [show (!decide ((l[i]).Col≤D - 1))=false by simp; omega]
    exact AO rfl (hn trivial)
  · exact AB (fun h=>by omega) (fun _=>AO (by decide) hk)
def Ae9 (r:Int) (h:List AD):Int×Int:=
  if ¬(1≤r∧r≤5) then (0,8) else match h with
    | []=>(zS r,0)
    | t :: l=>if (JC (l.foldl (fun w u=>EK r w (LI u.Val)) (LI t.Val))).2 then ((JC (l.foldl (fun w u=>EK r w (LI u.Val)) (LI t.Val))).1,0) else (0,12)
theorem lK {r:Int}:∀ {l:List AD} {w:AN},(∀ t∈l,FL t.Val)→NH w→NH (l.foldl (fun w u=>EK r w (LI u.Val)) w)
  | [],_,_,h=>h
  | t :: l,w,hv,h=>lK (l:=l) (fun u D=>hv u (List.mem_cons_of_mem _ D)) (TZ h (VK (hv t (by simp))))
theorem nQ {r J O:Int} {T:List AD} {Q:Int×Int→Prop} (Y:Canon J O T) (U:∀ t∈T,FL t.Val) (D:Q (Ae9 r T)):TR r (BM J O T) Q:=by
  unfold TR
  unfold Ae9 at D
  refine KQ (CP (fun h=>?_) (fun h=>?_))
  · rwa [if_pos (of_decide_eq_false h)] at D
  have hr:=of_decide_eq_true h
  rw [if_neg (fun h=>h hr)] at D
  refine UC Y.sml (MU Y) Y ?_
  have G:=Y.len
  match T,U,D,G with
  | [],_,D,_=>exact CC (fun _=>dR D) (fun h=>absurd rfl h)
  | t :: l,U,D,G=>
    refine CC (fun h=>by simp at h; omega) (fun _=>AP (by omega) rfl (GN (U t (by simp)) ⟨by omega,by simp; omega,by omega,?_⟩))
    have e:(((t :: l).take ((t :: l).length:Int).toNat).drop (Int.toNat 1))=l:=by simp
    simp only [e]
    rw [List.length_cons] at G
    refine AV (fun (w:AN) i=>(w.Hi,w.Lo,i)) 0 l.length (by omega) (fun i w=>w=(l.take i).foldl (fun w u=>EK r w (LI u.Val)) (LI t.Val)) (by omega) rfl (fun i w next _ hi W hn=>?_) (fun w next W=>?_) (s0:=LI t.Val)
    · dsimp only
      have V:NH w:=by rw [W]; exact lK (fun u Z=>U u (List.mem_cons_of_mem _ (List.mem_of_mem_take Z))) (VK (U t (by simp)))
      have hx:=U _ (List.mem_cons_of_mem _ (List.getElem_mem hi))
      refine AB (fun _=>AW hi (GN hx (QR V (VK hx) (hn _ ?_)))) (fun h=>by omega)
      rw [List.take_succ_eq_append_getElem hi,List.foldl_append,←W]; rfl
    · dsimp only
      rw [List.take_length] at W
      have V:NH w:=by rw [W]; exact lK (fun u Z=>U u (List.mem_cons_of_mem _ Z)) (VK (U t (by simp)))
      refine AB (fun h=>by omega) (fun _=>ZN V ?_)
      simp only [←W] at D
      cases hb:(JC w).2 with
      | true=>rw [hb,if_pos rfl] at D; exact AO rfl D
      | false=>rw [hb,if_neg (by simp)] at D; exact AX rfl D
theorem WN {D G:Int} {T:List AD} (h:Canon D G T) {i j a:Int} (hi:0≤i):XS (fJ T i) j=some a↔(⟨i,j,a⟩:AD)∈T:=by
  unfold fJ
  rw [AgD (rN h.srt i.toNat),List.mem_map]
  unfold LC
  constructor
  · rintro ⟨t,J,he⟩
    obtain ⟨U,W⟩:=List.mem_filter.1 J
    have O:=of_decide_eq_true W
    unfold XM at he
    obtain ⟨V,tc,tv⟩:=t
    simp only [EC.mk.injEq] at he O
    obtain ⟨rfl,rfl⟩:=he
    rw [show i=V by omega]
    exact U
  · intro J
    exact ⟨_,List.mem_filter.2 ⟨J,by simp; omega⟩,rfl⟩
theorem UE {r G D:Int} {A B:List AD} (h:Canon G D A) {i:Int} (hi:0≤i) (c:Int):NB r A B i c=YM r D.toNat (XS (fJ A i)) (yU B c):=by
  unfold NB
  refine Ae2 (rN h.srt _) (fun x O=>?_)
  obtain ⟨t,J,rfl⟩:=List.mem_map.1 O
  have:=h.inn t (List.mem_filter.1 J).1
  unfold ZZ at this
  unfold XM
  dsimp only
  omega
theorem YN {α β:Type} {f g:α→Option β}:∀ {l:List α},(∀ x∈l,f x=g x)→l.filterMap f=l.filterMap g
  | [],_=>rfl
  | x :: l,h=>by rw [List.filterMap_cons,List.filterMap_cons,h x (by simp),YN fun y D=>h y (List.mem_cons_of_mem _ D)]
def gC (s:List AM) (i:Nat):AM:=s.getD i ⟨0,0,⟨0,0⟩⟩
theorem RC {s:List AM} {i:Nat} (h:i<s.length):s[i]? = some (gC s i):=by simp [gC,List.getD_eq_getElem?_getD,h]
theorem rR {s:List AM} {i:Nat} (h:i<s.length):s[i]=gC s i:=by have:=RC h; rw [List.getElem?_eq_getElem h] at this; exact Option.some.inj this
def swC (s:List AM) (i k:Nat):List AM:=(s.set i (gC s k)).set k (gC s i)
theorem Ab5 (s:List AM) (i k:Nat):(swC s i k).length=s.length:=by simp [swC]
theorem XA {s:List AM} {i k:Nat} (hi:i<s.length) (hk:k<s.length) (j:Nat):gC (swC s i k) j=if j=k then gC s i else if j=i then gC s k else gC s j:=by
  unfold swC gC
  simp only [List.getD_eq_getElem?_getD]
  by_cases e1:j=k
  · subst e1; rw [if_pos rfl,List.getElem?_set_self (by simpa using hk)]; simp
  · rw [if_neg e1,List.getElem?_set_ne (Ne.symm e1)]
    by_cases e2:j=i
    · subst e2; rw [if_pos rfl,List.getElem?_set_self hi]; simp
    · rw [if_neg e2,List.getElem?_set_ne (Ne.symm e2)]
theorem fL:∀ (l:List AM) (i:Nat) (h:i<l.length) (y:AM),(l[i] :: l.set i y).Perm (y :: l)
  | a :: l,0,_,y=>by simpa using List.Perm.swap y a l
  | a :: l,i+1,h,y=>by
    have:=fL l i (by simpa using h) y
    simp only [List.getElem_cons_succ,List.set_cons_succ]
    exact (List.Perm.swap _ _ _).trans ((this.cons a).trans (List.Perm.swap _ _ _))
theorem vI {s:List AM} {i k:Nat} (hi:i<s.length) (hk:k<s.length):(swC s i k).Perm s:=by
  have O:=rR hi
  have J:=rR hk
  have h:=fL s i hi (gC s k)
  have D:=fL (s.set i (gC s k)) k (by simpa using hk) (gC s i)
  have G:(s.set i (gC s k))[k]'(by simpa using hk)=gC s k:=by
    rw [List.getElem_set]; split
    · rfl
    · exact J
  rw [G] at D; rw [O] at h
  exact List.Perm.cons_inv (D.trans h)
theorem dS {s:List AM} {i k:Nat} {K:List AM→Prop} (hi:i<s.length) (hk:k<s.length) (h:K (swC s i k)) :
    AY s (k:Int) fun x=>AY s (i:Int) fun y=>AY s (i:Int) fun _=>AY (s.set (i:Int).toNat x) (k:Int) fun _=>K ((s.set (i:Int).toNat x).set (k:Int).toNat y):=by
  refine AP (x:=gC s k) (by omega) (RC hk) (AP (x:=gC s i) (by omega) (RC hi) (AP (x:=gC s i) (by omega) (RC hi) ?_))
  exact AW (by simpa using hk) h
def lL (a b:AM):Prop:=¬jQ b a
theorem LD {a b c:AM} (h1:lL a b) (h2:lL b c):lL a c:=by unfold lL jQ NK at *; simp only at *; omega
theorem AeA (a:AM):lL a a:=by unfold lL jQ NK; simp only; omega
theorem rS {a b:AM} (h:jQ a b):lL a b:=by unfold lL jQ NK at *; simp only at *; omega
theorem AjV {x y:AM} {A B:Prop} (D:jQ x y→A) (J:¬jQ x y→B):FA x y fun r=>AR (decide (r<0)) A B:=by
  unfold FA
  exact GB (GB (hG (AB (fun h=>D ((VL x y).1 h)) (fun h=>J fun G=>h ((VL x y).2 G)))))
theorem vJ {x y:AM} {A B:Prop} (D:¬jQ x y→A) (J:jQ x y→B):FA x y fun r=>AR (!(decide (r<0))) A B:=by
  unfold FA
  exact GB (GB (hG (CP (fun h=>D fun G=>of_decide_eq_false h ((VL x y).2 G)) (fun h=>J ((VL x y).1 (of_decide_eq_true h))))))
def fM (s:List AM) (a b:Nat):Prop:=∀ i j,a≤i→i<j→j<b→lL (gC s i) (gC s j)
structure SpC (a b:Nat) (s t:List AM):Prop where
  len:t.length=s.length
  perm:t.Perm s
  out:∀ i,i<a∨b≤i→gC t i=gC s i
  mem:∀ i,a≤i→i<b→∃ j,a≤j∧j<b∧gC t i=gC s j
theorem SpC.refl (a b:Nat) (s:List AM):SpC a b s s:=⟨rfl,.refl _,fun _ _=>rfl,fun i h D=>⟨i,h,D,rfl⟩⟩
theorem SpC.trans {a b:Nat} {s t u:List AM} (h:SpC a b s t) (D:SpC a b t u):SpC a b s u:=
  ⟨D.len.trans h.len,D.perm.trans h.perm,fun i hi=>(D.out i hi).trans (h.out i hi),fun i O W=>by
    obtain ⟨j,J,G,e⟩:=D.mem i O W
    obtain ⟨k,Y,V,U⟩:=h.mem j J G
    exact ⟨k,Y,V,e.trans U⟩⟩
theorem SpC.wide {a b a' b':Nat} {s t:List AM} (h:SpC a b s t) (ha:a'≤a) (hb:b≤b'):SpC a' b' s t:=
  ⟨h.len,h.perm,fun i hi=>h.out i (by omega),fun i D G=>by
    by_cases c:a≤i∧i<b
    · obtain ⟨j,h3,h4,e⟩:=h.mem i c.1 c.2
      exact ⟨j,by omega,by omega,e⟩
    · exact ⟨i,D,G,h.out i (by omega)⟩⟩
theorem SpC.swap {a b i k:Nat} {s:List AM} (hb:b≤s.length) (hi:a≤i∧i<b) (hk:a≤k∧k<b):SpC a b s (swC s i k):=
  ⟨Ab5 s i k,vI (by omega) (by omega),fun j hj=>by
    rw [XA (by omega) (by omega),if_neg (by omega),if_neg (by omega)],fun j h D=>by
    rw [XA (by omega) (by omega)]
    by_cases e:j=k
    · rw [if_pos e]; exact ⟨i,hi.1,hi.2,rfl⟩
    · rw [if_neg e]
      by_cases e':j=i
      · rw [if_pos e']; exact ⟨k,hk.1,hk.2,rfl⟩
      · rw [if_neg e']; exact ⟨j,h,D,rfl⟩⟩
theorem fN {i:Nat} (h0:0<i) (h1:i≤1000000000000):AJ ((i:Int) - 1)=((i - 1:Nat):Int):=by rw [BE (by omega) (by omega)]; omega
theorem bN {i:Nat} (h1:i≤1000000000000):AJ ((i:Int)+1)=((i+1:Nat):Int):=by rw [BE (by omega) (by omega)]; omega
theorem dT {i k:Nat} (h1:i≤1000000000000) (h2:k≤1000000000000):AJ ((i:Int)+(k:Int))=((i+k:Nat):Int):=by rw [BE (by omega) (by omega)]; omega
theorem VM {i k:Nat} (h0:k≤i) (h1:i≤1000000000000):AJ ((i:Int) - (k:Int))=((i - k:Nat):Int):=by rw [BE (by omega) (by omega)]; omega
theorem Ab6 {s:List AM} {a b:Nat} {Q:List AM→Prop} (hb:b≤s.length) (hl:s.length≤1000000000) (ha:a≤b) (hQ:∀ t,SpC a b s t→fM t a b→Q t):BZ s a b Q:=by
  unfold BZ
  rw [bN (by omega)]
  refine EB (fun h:List AM×Int=>∃ i:Nat,h.2=i∧a+1≤i∧(i≤b∨i=a+1)∧SpC a b s h.1∧fM h.1 a i) (fun h=>b - h.2.toNat) ⟨a+1,rfl,Nat.le_refl _,.inr rfl,.refl _ _ _,fun i j h1 h2 h3=>by omega⟩ ?_
  rintro ⟨t,_⟩ next ⟨i,rfl,h1,h2,hp,hs⟩ hn
  dsimp only at hp hs ⊢
  have hlen:=hp.len
  refine AB (fun hib=>?_) (fun hib=>hQ t hp fun p q Y Z g3=>hs p q Y Z (by omega))
  have V:∀ u:List AM,SpC a b s u→fM u a (i+1)→next (u,AJ ((i:Int)+1)):=fun u G hsu=>by
    rw [bN (by omega)]
    exact hn _ ⟨i+1,rfl,by omega,.inl (by omega),G,hsu⟩ (by dsimp only; omega)
  refine EB (fun h:List AM×Int=>∃ j:Nat,h.2=j∧a≤j∧j≤i∧SpC a b s h.1∧∀ p q,a≤p→p<q→q≤i→q≠j→lL (gC h.1 p) (gC h.1 q)) (fun h=>h.2.toNat) ⟨i,rfl,by omega,Nat.le_refl _,hp,fun p q Y Z g3 g4=>hs p q Y Z (by omega)⟩ ?_
  rintro ⟨u,_⟩ nx ⟨j,rfl,Y,Z,G,D⟩ hx
  dsimp only at G D ⊢
  have hul:=G.len
  refine AB (fun haj=>?_) (fun haj=>V u G fun p q J U O=>D p q J U (by omega) (by omega))
  rw [fN (by omega) (by omega)]
  refine AP (x:=gC u j) (by omega) (RC (by omega)) (AP (x:=gC u (j - 1)) (by omega) (RC (by omega)) (AjV (fun hlt=>dS (s:=u) (i:=j) (k:=j - 1) (K:=fun l=>nx (l,((j - 1:Nat):Int))) (by omega) (by omega) ?_) (fun W=>V u G fun p q J U O=>?_)))
  · refine hx (swC u j (j - 1),((j - 1:Nat):Int)) ⟨j - 1,rfl,by omega,by omega,G.trans (SpC.swap (s:=u) (i:=j) (k:=j - 1) (by omega) (by omega) (by omega)),fun p q J U O k4=>?_⟩ (by dsimp only; omega)
    dsimp only
    rw [XA (by omega) (by omega),XA (by omega) (by omega)]
    rw [if_neg k4]
    by_cases e:q=j
    · rw [if_pos e]
      by_cases e':p=j - 1
      · rw [if_pos e']; exact rS hlt
      · rw [if_neg e',if_neg (by omega)]; exact D p (j - 1) J (by omega) (by omega) (by omega)
    · rw [if_neg e]
      by_cases e':p=j - 1
      · rw [if_pos e']; exact D j q (by omega) (by omega) O e
      · rw [if_neg e']
        by_cases e'':p=j
        · rw [if_pos e'']; exact D (j - 1) q (by omega) (by omega) O e
        · rw [if_neg e'']; exact D p q J U O e
  · by_cases e:q=j
    · subst e
      by_cases e':p=q - 1
      · subst e'; exact W
      · exact LD (D p (q - 1) J (by omega) (by omega) (by omega)) W
    · exact D p q J U (by omega) e
theorem fO {s:List AM} {a b n:Nat} {Q:List AM→Prop} (V:a+n≤b) (hb:b+n≤s.length) (hl:s.length≤1000000000)
    (O:∀ t,t.length=s.length→t.Perm s→(∀ i,gC t i=if a≤i∧i<a+n then gC s (b+(i - a)) else if b≤i∧i<b+n then gC s (a+(i - b)) else gC s i)→Q t):BW s a b n Q:=by
  unfold BW
  refine AV (fun (t:List AM) k=>(t,k)) 0 n (by omega) (fun k t=>t.length=s.length∧t.Perm s∧∀ i,gC t i=if a≤i∧i<a+k then gC s (b+(i - a)) else if b≤i∧i<b+k then gC s (a+(i - b)) else gC s i) (by omega) ⟨rfl,.refl _,fun i=>by rw [if_neg (by omega),if_neg (by omega)]⟩ (fun k t next _ hk D J=>?_) (fun t next D=>?_)
  · obtain ⟨U,W,G⟩:=D
    dsimp only
    refine AB (fun _=>?_) (fun h=>by omega)
    rw [dT (by omega) (by omega),dT (by omega) (by omega)]
    refine dS (s:=t) (i:=a+k) (k:=b+k) (K:=fun l=>next (l,AJ ((k:Int)+1))) (by omega) (by omega) (J (swC t (a+k) (b+k)) ⟨(Ab5 _ _ _).trans U,(vI (by omega) (by omega)).trans W,fun i=>?_⟩)
    rw [XA (by omega) (by omega),G,G,G]
    repeat' split
    all_goals first | with_reducible rfl | (exfalso; omega) | (congr 1; omega)
  · exact AB (fun h=>by omega) (fun _=>O t D.1 D.2.1 D.2.2)
def aA (s:List AM) (a m b x:Nat):AM:=if a≤x∧x<a+(b - m) then gC s (x+(m - a)) else if a+(b - m)≤x∧x<b then gC s (x - (b - m)) else gC s x
theorem AgF {s:List AM} {a m b:Nat} {Q:List AM→Prop} (h1:a<m) (h2:m<b) (hb:b≤s.length) (hl:s.length≤1000000000)
    (hQ:∀ t,t.length=s.length→t.Perm s→(∀ x,gC t x=aA s a m b x)→Q t):DJ s a m b Q:=by
  unfold DJ
  rw [VM (by omega) (by omega),VM (by omega) (by omega)]
  refine EB (fun J:List AM×Int×Int=>∃ i j:Nat,J.2.1=i∧J.2.2=j∧0<i∧0<j∧i≤m - a∧j≤b - m∧J.1.length=s.length∧J.1.Perm s∧∀ x,aA J.1 (m - i) m (m+j) x=aA s a m b x) (fun J=>J.2.1.toNat+J.2.2.toNat)
    ⟨m - a,b - m,rfl,rfl,by omega,by omega,Nat.le_refl _,Nat.le_refl _,rfl,.refl _,fun x=>by dsimp only; rw [show m - (m - a)=a by omega,show m+(b - m)=b by omega]⟩ ?_
  rintro ⟨t,_,_⟩ next ⟨i,j,rfl,rfl,i0,j0,i1,j1,D,hp,V⟩ hn
  dsimp only at D hp V ⊢
  rw [VM (i:=m) (k:=i) (by omega) (by omega)]
  refine FF (fun W=>AB (fun Z=>?_) (fun Z=>?_)) (fun he=>?_)
  · refine fO (by omega) (by omega) (by omega) fun u U O G=>?_
    rw [VM (by omega) (by omega)]
    refine hn _ ⟨i - j,j,rfl,rfl,by omega,j0,by omega,j1,U.trans D,O.trans hp,fun x=>?_⟩ (by dsimp only; omega)
    rw [←V x]
    dsimp only
    unfold aA
    rw [G,G,G]
    repeat' split
    all_goals first | with_reducible rfl | (exfalso; omega) | (congr 1; omega)
  · rw [dT (by omega) (by omega),VM (by omega) (by omega)]
    have hne':i≠j:=fun h=>W (by rw [h])
    refine fO (by omega) (by omega) (by omega) fun u U O G=>?_
    rw [VM (by omega) (by omega)]
    refine hn _ ⟨i,j - i,rfl,rfl,i0,by omega,i1,by omega,U.trans D,O.trans hp,fun x=>?_⟩ (by dsimp only; omega)
    rw [←V x]
    dsimp only
    unfold aA
    rw [G,G,G]
    repeat' split
    all_goals first | with_reducible rfl | (exfalso; omega) | (congr 1; omega)
  · have Y:i=j:=by omega
    subst Y
    refine fO (by omega) (by omega) (by omega) fun u U O G=>hQ u (U.trans D) (O.trans hp) fun x=>?_
    rw [←V x,G]
    unfold aA
    repeat' split
    all_goals first | with_reducible rfl | (exfalso; omega) | (congr 1; omega)
theorem rT {T:Nat→Prop} {D:Int×Int→((Int×Int)→Prop)→Prop} {lo hi:Nat} (Y:lo≤hi)
    (Z:∀ (i j:Nat) (next:Int×Int→Prop),lo≤i→i<j→j≤hi→(T ((i+j) / 2)→next ((((i+j) / 2+1:Nat):Int),(j:Int)))→(¬T ((i+j) / 2)→next ((i:Int),(((i+j) / 2:Nat):Int)))→D ((i:Int),(j:Int)) next)
    (he:∀ (i:Nat) (next:Int×Int→Prop),lo≤i→i≤hi→(lo<i→T (i - 1))→(i<hi→¬T i)→D ((i:Int),(i:Int)) next):BB D ((lo:Int),(hi:Int)):=by
  refine EB (fun G:Int×Int=>∃ i j:Nat,G=((i:Int),(j:Int))∧lo≤i∧i≤j∧j≤hi∧(lo<i→T (i - 1))∧(j<hi→¬T j)) (fun G=>(G.2 - G.1).toNat) ⟨lo,hi,rfl,Nat.le_refl _,Y,Nat.le_refl _,fun h=>by omega,fun h=>by omega⟩ ?_
  rintro _ next ⟨i,j,rfl,U,h2,O,W,V⟩ hn
  by_cases e:i=j
  · subst e; exact he i next U O W V
  · refine Z i j next U (by omega) O (fun J=>hn _ ⟨(i+j) / 2+1,j,rfl,by omega,by omega,O,fun _=>by rw [Nat.add_sub_cancel]; exact J,V⟩ (by dsimp only; omega)) (fun J=>hn _ ⟨i,(i+j) / 2,rfl,U,by omega,by omega,W,fun _=>J⟩ (by dsimp only; omega))
theorem Ab7 {i j:Nat} (h1:i≤1000000000000) (h2:j≤1000000000000):AJ (shr .u64 (IntKind.wrap .u64 (AJ ((i:Int)+(j:Int)))) 1)=(((i+j) / 2:Nat):Int):=by
  rw [BE (x:=(i:Int)+j) (by omega) (by omega),tY (by omega) (by omega)]
  have:shr .u64 ((i:Int)+j) 1=((i:Int)+j) / 2:=by
    show ((i:Int)+j).fdiv (2 ^ 1)=_
    rw [Int.fdiv_eq_ediv_of_nonneg _ (by decide)]; rfl
  rw [this,BE (by omega) (by omega)]; omega
def yW (rc:List AM→Int→Int→Int→(List AM→Prop)→Prop) (N:Nat):Prop:=∀ {s:List AM} {a m b:Nat} {Q:List AM→Prop},a<m→m<b→b≤s.length→s.length≤1000000000→b - a≤N→fM s a m→fM s m b →
  (∀ t,SpC a b s t→fM t a b→Q t)→rc s a m b Q
theorem vK {s:List AM} {a m b x:Nat} (h:¬a<m∨¬m<b) (h1:a≤m) (h2:m≤b):aA s a m b x=gC s x:=by
  unfold aA
  repeat' split
  all_goals first | with_reducible rfl | (exfalso; omega) | (congr 1; omega)
theorem AiG {s t:List AM} {a m b:Nat} (h1:a≤m) (h2:m≤b) (D:t.length=s.length) (hp:t.Perm s) (h:∀ x,gC t x=aA s a m b x):SpC a b s t:=
  ⟨D,hp,fun i hi=>by rw [h]; unfold aA; rw [if_neg (by omega),if_neg (by omega)],fun i g1 g2=>by
    rw [h]; unfold aA
    by_cases c:a≤i∧i<a+(b - m)
    · rw [if_pos c]; exact ⟨_,by omega,by omega,rfl⟩
    · rw [if_neg c,if_pos (by omega)]; exact ⟨_,by omega,by omega,rfl⟩⟩
theorem AgG {s:List AM} {a b:Nat} {Q:List AM→Prop} (h2:a+1<b) (hb:b≤s.length) (hl:s.length≤1000000000) (O:fM s (a+1) b) (hQ:∀ t,SpC a b s t→fM t a b→Q t)
    {rc:List AM→Int→Int→Int→(List AM→Prop)→Prop}:BG rc s a ((a+1:Nat):Int) b Q:=by
  unfold BG
  rw [VM (i:=a+1) (k:=a) (by omega) (by omega)]
  refine CC (fun _=>?_) (fun h=>by omega)
  refine rT (T:=fun c=>jQ (gC s c) (gC s a)) (by omega) (fun i j next g1 g2 g3 V Z=>?_) (fun i next g1 g2 V Z=>?_)
  · dsimp only
    rw [Ab7 (by omega) (by omega)]
    refine AB (fun _=>AP (x:=gC s ((i+j) / 2)) (by omega) (RC (by omega)) (AP (x:=gC s a) (by omega) (RC (by omega)) (AjV (fun h=>?_) (fun h=>Z h)))) (fun h=>by omega)
    rw [bN (by omega)]; exact V h
  · dsimp only
    refine AB (fun h=>by omega) (fun _=>?_)
    rw [fN (i:=i) (by omega) (by omega)]
    refine AV (fun (t:List AM) k=>(t,k)) a (i - 1) (by omega) (fun k t=>SpC a b s t∧∀ x,gC t x=if a≤x∧x<k then gC s (x+1) else if x=k then gC s a else gC s x) (by omega) ⟨.refl _ _ _,fun x=>by
      rw [if_neg (by omega)]; split
      · rename_i e; rw [e]
      · rfl⟩ (fun k t nx k1 k2 Y hx=>?_) (fun t nx Y=>?_)
    · obtain ⟨U,D⟩:=Y
      have hlen:=U.len
      dsimp only
      refine AB (fun _=>?_) (fun h=>by omega)
      rw [bN (i:=k) (by omega)]
      refine dS (s:=t) (i:=k) (k:=k+1) (K:=fun l=>nx (l,((k+1:Nat):Int))) (by omega) (by omega) ?_
      have:=hx (swC t k (k+1)) ⟨U.trans (SpC.swap (s:=t) (i:=k) (k:=k+1) (by omega) (by omega) (by omega)),fun x=>?_⟩
      · rw [bN (i:=k) (by omega)] at this; exact this
      · rw [XA (by omega) (by omega),D,D,D]
        repeat' split
        all_goals first | with_reducible rfl | (exfalso; omega) | (congr 1; omega)
    · obtain ⟨U,D⟩:=Y
      dsimp only
      refine AB (fun h=>by omega) (fun _=>hQ t U fun p q p1 p2 p3=>?_)
      rw [D,D]
      have W:∀ x,a+1≤x→x<i→lL (gC s x) (gC s a):=fun x x1 x2=>by
        have G:=rS (V (by omega))
        by_cases e:x=i - 1
        · subst e; exact G
        · exact LD (O x (i - 1) x1 (by omega) (by omega)) G
      have J:∀ x,i≤x→x<b→lL (gC s a) (gC s x):=fun x x1 x2=>by
        have G:lL (gC s a) (gC s i):=Z (by omega)
        by_cases e:x=i
        · subst e; exact G
        · exact LD G (O i x (by omega) (by omega) x2)
      by_cases c1:p<i - 1
      · rw [if_pos ⟨p1,c1⟩]
        by_cases c2:q<i - 1
        · rw [if_pos ⟨by omega,c2⟩]; exact O _ _ (by omega) (by omega) (by omega)
        · rw [if_neg (by omega)]
          by_cases c3:q=i - 1
          · rw [if_pos c3]; exact W _ (by omega) (by omega)
          · rw [if_neg c3]; exact O _ _ (by omega) (by omega) p3
      · rw [if_neg (by omega)]
        rw [if_neg (c:=a≤q∧q<i - 1) (by omega),if_neg (c:=q=i - 1) (by omega)]
        by_cases c3:p=i - 1
        · rw [if_pos c3]; exact J _ (by omega) p3
        · rw [if_neg c3]; exact O _ _ (by omega) p2 p3
theorem AeB {s:List AM} {a m:Nat} {Q:List AM→Prop} (G:a+1<m) (hb:m+1≤s.length) (hl:s.length≤1000000000) (U:fM s a m) (hQ:∀ t,SpC a (m+1) s t→fM t a (m+1)→Q t)
    {rc:List AM→Int→Int→Int→(List AM→Prop)→Prop}:BG rc s a m ((m+1:Nat):Int) Q:=by
  unfold BG
  rw [VM (i:=m) (k:=a) (by omega) (by omega),VM (i:=m+1) (k:=m) (by omega) (by omega)]
  refine CC (fun h=>by omega) (fun _=>CC (fun _=>?_) (fun h=>by omega))
  refine rT (T:=fun c=>¬jQ (gC s m) (gC s c)) (by omega) (fun i j next g1 g2 g3 W hf=>?_) (fun i next g1 g2 W hf=>?_)
  · dsimp only
    rw [Ab7 (by omega) (by omega)]
    refine AB (fun _=>AP (x:=gC s m) (by omega) (RC (by omega)) (AP (x:=gC s ((i+j) / 2)) (by omega) (RC (by omega)) (vJ (fun h=>?_) (fun h=>hf fun h'=>h' h)))) (fun h=>by omega)
    rw [bN (by omega)]; exact W h
  · dsimp only
    refine AB (fun h=>by omega) (fun _=>?_)
    refine EB (fun J:List AM×Int=>∃ k:Nat,J.2=k∧i≤k∧k≤m∧SpC a (m+1) s J.1∧∀ x,gC J.1 x=if x=k then gC s m else if k<x∧x≤m then gC s (x - 1) else gC s x) (fun J=>J.2.toNat) ⟨m,rfl,g2,Nat.le_refl _,.refl _ _ _,fun x=>by
      dsimp only
      by_cases e:x=m
      · rw [if_pos e,e]
      · rw [if_neg e,if_neg (by omega)]⟩ ?_
    rintro ⟨t,_⟩ nx ⟨k,rfl,k1,k2,V,D⟩ hx
    dsimp only at V D ⊢
    have hlen:=V.len
    refine AB (fun Y=>?_) (fun Y=>hQ t V fun p q p1 p2 p3=>?_)
    · rw [fN (i:=k) (by omega) (by omega)]
      refine dS (s:=t) (i:=k) (k:=k - 1) (K:=fun l=>nx (l,((k - 1:Nat):Int))) (by omega) (by omega) ?_
      refine hx (swC t k (k - 1),((k - 1:Nat):Int)) ⟨k - 1,rfl,by omega,by omega,V.trans (SpC.swap (s:=t) (i:=k) (k:=k - 1) (by omega) (by omega) (by omega)),fun x=>?_⟩ (by dsimp only; omega)
      dsimp only
      rw [XA (by omega) (by omega),D,D,D]
      repeat' split
      all_goals first | with_reducible rfl | (exfalso; omega) | (congr 1; omega)
    · have Z:k=i:=by omega
      subst Z
      rw [D,D]
      have low:∀ x,a≤x→x<k→lL (gC s x) (gC s m):=fun x x1 x2=>by
        have G:lL (gC s (k - 1)) (gC s m):=W (by omega)
        by_cases e:x=k - 1
        · subst e; exact G
        · exact LD (U x (k - 1) x1 (by omega) (by omega)) G
      have O:∀ x,k≤x→x<m→lL (gC s m) (gC s x):=fun x x1 x2=>by
        have G:lL (gC s m) (gC s k):=rS (Classical.not_not.1 (hf (by omega)))
        by_cases e:x=k
        · subst e; exact G
        · exact LD G (U k x (by omega) (by omega) x2)
      by_cases c1:p=k
      · rw [if_pos c1,if_neg (by omega),if_pos (by omega)]
        exact O _ (by omega) (by omega)
      · rw [if_neg c1]
        by_cases c2:k<p
        · rw [if_pos (by omega),if_neg (by omega),if_pos (by omega)]
          exact U _ _ (by omega) (by omega) (by omega)
        · rw [if_neg (by omega)]
          by_cases c3:q=k
          · rw [if_pos c3]; exact low _ p1 (by omega)
          · rw [if_neg c3]
            by_cases c4:k<q
            · rw [if_pos (by omega)]; exact U _ _ p1 (by omega) (by omega)
            · rw [if_neg (by omega)]; exact U _ _ p1 p2 (by omega)
theorem AeC {rc:List AM→Int→Int→Int→(List AM→Prop)→Prop} {N:Nat} (ih:yW rc N):yW (BG rc) (N+1):=by
  intro s a m b Q h1 h2 hb hl hN hA hB hQ
  by_cases c1:m=a+1
  · subst c1; exact AgG h2 hb hl hB hQ
  by_cases c2:b=m+1
  · subst c2; exact AeB (by omega) hb hl hA hQ
  unfold BG
  rw [VM (i:=m) (k:=a) (by omega) (by omega),VM (i:=b) (k:=m) (by omega) (by omega),Ab7 (i:=a) (j:=b) (by omega) (by omega)]
  generalize hmid:(a+b) / 2=D
  rw [dT (i:=D) (k:=m) (by omega) (by omega),fN (i:=D+m) (by omega) (by omega)]
  refine CC (fun h=>by omega) (fun _=>CC (fun h=>by omega) (fun _=>?_))
  refine DP (fun t:Int×Int=>∃ lo hi:Nat,t=((lo:Int),(hi:Int))∧a≤lo∧lo≤hi∧hi≤D∧hi≤m∧(lo=a∨D+m - lo=b)∧(hi=D∨hi=m)∧D+m - lo≤b) (fun t ht=>?_) fun k hk=>?_
  · obtain ⟨lo,hi,rfl,q1,q2,q3,q4,q5,q6,q7⟩:=ht
    dsimp only
    refine rT (T:=fun c=>¬jQ (gC s (D+m - 1 - c)) (gC s c)) q2 (fun i j next g1 g2 g3 ht hf=>?_) (fun O next g1 g2 ht hf=>?_)
    · dsimp only
      rw [Ab7 (by omega) (by omega),VM (i:=D+m - 1) (k:=(i+j) / 2) (by omega) (by omega)]
      refine AB (fun _=>AP (x:=gC s (D+m - 1 - (i+j) / 2)) (by omega) (RC (by omega)) (AP (x:=gC s ((i+j) / 2)) (by omega) (RC (by omega)) (vJ (fun h=>?_) (fun h=>hf fun h'=>h' h)))) (fun h=>by omega)
      rw [bN (by omega)]; exact ht h
    · dsimp only
      refine AB (fun h=>by omega) (fun _=>?_)
      rw [VM (i:=D+m) (k:=O) (by omega) (by omega)]
      generalize hen:D+m - O=U
      refine DP (fun t:List AM=>t.length=s.length∧t.Perm s∧∀ x,gC t x=aA s O m U x) (fun t ht'=>?_) fun k' hk'=>?_
      · obtain ⟨t1,t2,t3⟩:=ht'
        have hsp:SpC a b s t:=(AiG (by omega) (by omega) t1 t2 t3).wide (by omega) (by omega)
        have v1:∀ x,x<O→gC t x=gC s x:=fun x hx=>by rw [t3]; unfold aA; rw [if_neg (by omega),if_neg (by omega)]
        have v2:∀ x,O≤x→x<D→gC t x=gC s (x+(m - O)):=fun x hx hx'=>by rw [t3]; unfold aA; rw [if_pos (by omega)]
        have v3:∀ x,D≤x→x<U→gC t x=gC s (x - (D - O)):=fun x hx hx'=>by rw [t3]; unfold aA; rw [if_neg (by omega),if_pos (by omega)]; congr 1; omega
        have v4:∀ x,U≤x→gC t x=gC s x:=fun x hx=>by rw [t3]; unfold aA; rw [if_neg (by omega),if_neg (by omega)]
        have sA:fM t a O:=fun p q J p2 p3=>by rw [v1 p (by omega),v1 q p3]; exact hA p q J p2 (by omega)
        have sB:fM t O D:=fun p q J p2 p3=>by rw [v2 p J (by omega),v2 q (by omega) p3]; exact hB _ _ (by omega) (by omega) (by omega)
        have sC:fM t D U:=fun p q J p2 p3=>by rw [v3 p J (by omega),v3 q (by omega) p3]; exact hA _ _ (by omega) (by omega) (by omega)
        have sD:fM t U b:=fun p q J p2 p3=>by rw [v4 p J,v4 q (by omega)]; exact hB p q (by omega) p2 p3
        have G:∀ {lo' hi':Nat},fM s lo' hi'→∀ p q,lo'≤p→p≤q→q<hi'→lL (gC s p) (gC s q):=fun h p q J p2 p3=>by
          by_cases e:p=q
          · subst e; exact AeA _
          · exact h p q J (by omega) p3
        have cross:∀ x y,a≤x→x<D→D≤y→y<b→lL (gC t x) (gC t y):=fun x y x1 x2 y1 y2=>by
          by_cases Y:x<O
          · rw [v1 x Y]
            by_cases W:y<U
            · rw [v3 y y1 W]; exact G hA _ _ x1 (by omega) (by omega)
            · rw [v4 y (by omega)]
              have hT:=ht (by omega)
              have e:D+m - 1 - (O - 1)=U:=by omega
              rw [e] at hT
              exact LD (G hA x (O - 1) x1 (by omega) (by omega)) (LD hT (G hB U y (by omega) (by omega) y2))
          · rw [v2 x (by omega) x2]
            by_cases W:y<U
            · rw [v3 y y1 W]
              have hT:=rS (Classical.not_not.1 (hf (by omega)))
              have e:D+m - 1 - O=U - 1:=by omega
              rw [e] at hT
              exact LD (G hB _ (U - 1) (by omega) (by omega) (by omega)) (LD hT (G hA O _ (by omega) (by omega) (by omega)))
            · rw [v4 y (by omega)]; exact G hB _ _ (by omega) (by omega) y2
        refine DP (fun u:List AM=>SpC a D t u∧fM u a D) (fun u hu=>?_) fun k'' V=>?_
        · obtain ⟨Z,u2⟩:=hu
          have ul:=Z.len
          have fin:∀ w,SpC D b u w→fM w D b→Q w:=fun w w1 w2=>hQ w ((hsp.trans (Z.wide (Nat.le_refl _) (by omega))).trans (w1.wide (by omega) (Nat.le_refl _))) fun p q J p2 p3=>by
            by_cases Y:q<D
            · rw [w1.out p (.inl (by omega)),w1.out q (.inl Y)]; exact u2 p q J p2 Y
            · by_cases W:D≤p
              · exact w2 p q W p2 p3
              · rw [w1.out p (.inl (by omega))]
                obtain ⟨p',z1,z2,e1⟩:=Z.mem p J (by omega)
                obtain ⟨q',z3,z4,e2⟩:=w1.mem q (by omega) p3
                rw [e1,e2,Z.out q' (.inr z3)]
                exact cross p' q' z1 z2 z3 z4
          have sC':fM u D U:=fun p q J p2 p3=>by rw [Z.out p (.inr J),Z.out q (.inr (by omega))]; exact sC p q J p2 p3
          have sD':fM u U b:=fun p q J p2 p3=>by rw [Z.out p (.inr (by omega)),Z.out q (.inr (by omega))]; exact sD p q J p2 p3
          refine AB (fun Y=>AB (fun W=>?_) (fun W=>?_)) (fun Y=>?_)
          · exact ih (by omega) (by omega) (by omega) (by omega) (by omega) sC' sD' fin
          · exact fin u (.refl _ _ _) fun p q J p2 p3=>sC' p q J p2 (by omega)
          · exact fin u (.refl _ _ _) fun p q J p2 p3=>sD' p q (by omega) p2 p3
        · refine AB (fun Y=>AB (fun W=>?_) (fun W=>?_)) (fun Y=>?_)
          · exact ih (by omega) (by omega) (by omega) (by omega) (by omega) sA sB fun u Z u2=>V u ⟨Z,u2⟩
          · exact V t ⟨.refl _ _ _,fun p q J p2 p3=>sA p q J p2 (by omega)⟩
          · exact V t ⟨.refl _ _ _,fun p q J p2 p3=>sB p q (by omega) p2 p3⟩
      · refine AB (fun Y=>AB (fun W=>?_) (fun W=>?_)) (fun Y=>?_)
        · exact AgF (by omega) (by omega) (by omega) hl fun t t1 t2 t3=>hk' t ⟨t1,t2,t3⟩
        · exact hk' s ⟨rfl,.refl _,fun x=>(vK (.inr (by omega)) (by omega) (by omega)).symm⟩
        · exact hk' s ⟨rfl,.refl _,fun x=>(vK (.inl (by omega)) (by omega) (by omega)).symm⟩
  · refine AB (fun d=>?_) (fun d=>hk _ ⟨a,m,rfl,by omega,by omega,by omega,by omega,.inl rfl,.inr rfl,by omega⟩)
    rw [VM (i:=D+m) (k:=b) (by omega) (by omega)]
    exact hk _ ⟨D+m - b,D,rfl,by omega,by omega,by omega,by omega,.inr (by omega),.inl rfl,by omega⟩
theorem AeD:∀ k:Nat,yW (CQ k) k
  | 0=>fun h1 h2 _ _ hN=>by omega
  | k+1=>AeC (AeD k)
theorem AeE {s:List AM} {a m b:Nat} {Q:List AM→Prop} (h:a<m) (U:m<b) (O:b≤s.length) (V:s.length≤1000000000) (D:fM s a m) (J:fM s m b) (G:∀ t,SpC a b s t→fM t a b→Q t):CW s a m b Q:=
  ⟨b - a,AeD (b - a) h U O V (Nat.le_refl _) D J G⟩
end Go.Proofs.YtbohadngdkjljaaGreat
