import Derived.Test.YtbohadngdkjljaaGreatCubA
namespace Go.Proofs.YtbohadngdkjljaaGreat
open Go Go.Fw
set_option linter.unusedVariables false
set_option linter.unusedSimpArgs false
def YT (f:List Int) (k:Nat):List Int:=((List.range k).filter fun i:Nat=>MV f i).map fun i:Nat=>(i:Int)
theorem mD (f:List Int) (k:Nat):YT f (k+1)=YT f k++if MV f k=true then [(k:Int)] else []:=by
  unfold YT
  rw [List.range_succ,List.filter_append,List.map_append]
  congr 1
  by_cases h:MV f k=true
  · rw [if_pos h]; simp [List.filter_cons,h]
  · rw [if_neg h]; simp [List.filter_cons,h]
theorem bQ {f:List Int} {a:Nat}:∀ b,a≤b→(∀ m,a≤m→m<b→MV f m=false)→YT f b=YT f a
  | 0, h, _ => by have : a = 0 := by omega
                  rw [this]
  | b+1,h,hz=>by
    by_cases e:a=b+1
    · rw [e]
    · rw [mD,hz b (by omega) (by omega),if_neg (by simp),List.append_nil]
      exact bQ b (by omega) fun m D h2=>hz m D (by omega)
theorem AcR (f:List Int) (k:Nat):(YT f k).length≤k:=by
  unfold YT
  rw [List.length_map]
  have:=List.length_filter_le (fun i:Nat=>MV f i) (List.range k)
  rwa [List.length_range] at this
theorem aX {f:List Int} {Q:List Int→Prop} (hf:okF f) (hl:f.length≤1000000) (hQ:Q (vE f)):JA f Q:=by
  unfold JA TT IZ FZ PF
  refine AV (s0:=(([]:List Int),(0:Nat))) (fun (s:List Int×Nat) i=>(s.1,i,s.2)) 0 f.length (by omega) (fun k s=>s.2=0∧s.1=YT f (64*k)) (by omega) ⟨rfl,rfl⟩ (fun k s next _ hk hs hn=>?_) (fun s next hs=>?_)
  · obtain ⟨s1,s2⟩:=s
    obtain ⟨D,U⟩:=hs
    simp only at D U ⊢
    subst D
    have V:=YL hf k
    refine AB (fun _=>EF (by omega) (by omega) ?_) (fun h=>by omega)
    have esh:shl .i64 (k:Int) 6=64*(k:Int):=by
      show AJ ((k:Int)*2 ^ 6)=_
      rw [BE (by omega) (by omega)]; omega
    rw [esh]
    refine EB (fun s:List Int×Int×Int×Nat=>∃ j:Nat,j≤64∧s.2.2.1=64*k+j∧s.2.1=FG f k / 2 ^ j∧s.2.2.2=0∧s.1=YT f (64*k+j)) (fun s=>s.2.1.toNat) ⟨0,by omega,by simp,by simp,rfl,U⟩ ?_
    rintro ⟨t1,w,at',t4⟩ nx ⟨j,hj,ha,J,h4,Y⟩ hnx
    simp only at ha J h4 Y ⊢
    subst h4
    have Z:0≤w∧w<18446744073709551616:=by
      rw [J]
      have hp:(0:Int)<2 ^ j:=Int.pow_pos (by omega)
      exact ⟨Int.ediv_nonneg V.1 (Int.le_of_lt hp),Int.lt_of_le_of_lt (Int.ediv_le_self _ V.1) V.2⟩
    have e1:AJ (at'+1)=64*(k:Int)+((j+1:Nat):Int):=by rw [ha,BE (by omega) (by omega)]; omega
    refine FF (fun hne=>?_) (fun he=>?_)
    · have W:j<64:=by
        rcases Nat.lt_or_ge j 64 with h | h
        · exact h
        · have:j=64:=by omega
          subst this
          exfalso; apply hne; rw [J]
          exact Int.ediv_eq_zero_of_lt V.1 V.2
      have G:=Ae3 hf W J
      have ec:((64*k+j:Nat):Int)=64*(k:Int)+j:=by omega
      have O:=mD f (64*k+j)
      rw [ec] at O
      rw [AgB Z.1 Z.2,AgC,e1]
      have hlen:=AcR f (64*k+j)
      refine CC (fun D=>⟨rfl,BA (by subst Y; simp; omega) (AO rfl (hnx _ ⟨j+1,by omega,rfl,pF J,rfl,?_⟩ (by simp only; omega)))⟩) (fun D=>hnx _ ⟨j+1,by omega,rfl,pF J,rfl,?_⟩ (by simp only; omega))
      · rw [show 64*k+(j+1)=64*k+j+1 by omega,O,if_pos (G.2 D),Y,ha]
      · rw [show 64*k+(j+1)=64*k+j+1 by omega,O,if_neg (fun h=>D (G.1 h)),Y,List.append_nil]
    · refine hn (_,0) ⟨rfl,?_⟩
      show t1=_
      rw [Y,show 64*(k+1)=64*k+64 by omega]
      refine (bQ _ (by omega) fun m D U=>?_).symm
      obtain ⟨q,rfl⟩:∃ q,m=64*k+q:=⟨m - 64*k,by omega⟩
      have:=Ac1 hf (j:=j) (k:=q) (by omega) (by omega) J he
      rw [show ((64*k+q:Nat):Int)=64*(k:Int)+q by omega]
      exact this
  · obtain ⟨s1,s2⟩:=s
    obtain ⟨D,U⟩:=hs
    simp only at D U ⊢
    subst D
    refine AB (fun h=>by omega) (fun _=>⟨rfl,?_⟩)
    show Q s1
    rw [U]; exact hQ
def VQ (f g:List Int):List Int:=(List.range f.length).map fun i:Nat=>(((FG f i).toNat &&& (FG g i).toNat:Nat):Int)
theorem SX (f g:List Int):(VQ f g).length=f.length:=by simp [VQ]
theorem wR {f g:List Int} (i:Int) (h0:0≤i):FG (VQ f g) i=(((FG f i).toNat &&& (FG g i).toNat:Nat):Int):=by
  obtain ⟨k,rfl⟩:∃ k:Nat,i=k:=⟨i.toNat,by omega⟩
  by_cases h:k<f.length
  · have:FG (VQ f g) k=(VQ f g)[k]'(by rw [SX]; exact h):=by simp [FG,List.getD_eq_getElem?_getD,SX,h]
    rw [this]
    simp [VQ]
  · rw [lH (by rw [SX]; omega),lH (f:=f) (by omega)]
    simp
theorem AfA {f g:List Int} (D:okF f):okF (VQ f g):=fun x h=>by
  obtain ⟨i,_,rfl⟩:=List.mem_map.1 h
  have h1:=YL D i
  have h2:=Nat.and_le_left (n:=(FG f i).toNat) (m:=(FG g i).toNat)
  omega
theorem pX (f g:List Int) (j:Int):MV (VQ f g) j=(MV f j && MV g j):=by
  unfold MV
  by_cases h:0≤j
  · rw [wR _ (by omega),Int.toNat_natCast,Nat.testBit_and]
    simp [h]
  · simp [h]
theorem nU {f g:List Int} {Q:List Int→Prop} (hf:okF f) (U:okF g) (hl:f.length≤1000000) (Y:Q (VQ f g)):PG f g Q:=by
  unfold PG TU KX
  refine ⟨by omega,by omega,?_⟩
  have Z:(List.replicate ((f.length:Int)).toNat (0:Int)).length=f.length:=by simp
  rw [Z]
  refine AV (fun (s:List Int) i=>(s,i)) 0 f.length (by omega) (fun i s=>s.length=f.length∧∀ j:Nat,j<i→FG s j=FG (VQ f g) j) (by omega) ⟨by simp,fun j h=>by omega⟩ (fun i s next _ hi J V=>?_) (fun s next J=>?_)
  · obtain ⟨D,G⟩:=J
    have O:=YL hf i
    have b2:=YL U i
    have key:∀ v:Int,v=xR .u64 (FG f i) (FG g i)→AY s (i:Int) fun _=>next ((s.set (i:Int).toNat v),AJ ((i:Int)+1)):=fun v hv=>by
      refine AW (by omega) (V _ ⟨by simp [D],fun j hj=>?_⟩)
      unfold FG at *
      rw [List.getD_eq_getElem?_getD,Int.toNat_natCast,Int.toNat_natCast]
      by_cases e:j=i
      · subst e
        rw [List.getElem?_set_self (by omega),hv,rI O.1 O.2 b2.1 b2.2]
        have:=wR (f:=f) (g:=g) (j:Int) (by omega)
        unfold FG at this
        rw [show (VQ f g).getD j 0=(VQ f g).getD ((j:Int)).toNat 0 by rw [Int.toNat_natCast],this]; rfl
      · rw [List.getElem?_set_ne (by omega)]
        have:=G j (by omega)
        rw [List.getD_eq_getElem?_getD,Int.toNat_natCast] at this
        exact this
    refine AB (fun _=>?_) (fun h=>by omega)
    refine DP (fun v=>v=FG f i) ?_ ?_
    · rintro v rfl
      refine AB (fun h=>EF (by omega) (by omega) (key _ rfl)) (fun h=>key _ ?_)
      rw [lH (f:=g) (by omega)]
    · intro k hk
      refine AB (fun h=>EF (by omega) (by omega) (hk _ rfl)) (fun h=>by omega)
  · obtain ⟨D,G⟩:=J
    refine AB (fun h=>by omega) (fun _=>?_)
    have:s=VQ f g:=by
      apply List.ext_getElem (by rw [D,SX])
      intro k k1 W
      have:=G k (by omega)
      unfold FG at this
      simpa [List.getD_eq_getElem?_getD,k1,W] using this
    show Q s
    rw [this]; exact Y
def VR (e:AL):Bool:=decide (e.To<e.From)
def sP (g:AK):AK:=⟨g.N,EU (g.Edges.filter VR)⟩
theorem AfB {g:AK} {Q:AK→Prop} (U:g.Edges.length≤1000000) (J:∀ e∈g.Edges,FL e.W) (O:Q (sP g)):VE g Q:=by
  unfold VE TQ NW
  refine AV (fun (s:List AL) i=>(s,i)) 0 g.Edges.length (by omega) (fun i s=>s=(g.Edges.take i).filter VR) (by omega) rfl (fun i s next _ hi D G=>?_) (fun s next D=>?_)
  · subst D
    have hL:=lZ (p:=VR) (xs:=g.Edges) (Nat.le_of_lt hi)
    refine AB (fun _=>AW hi ?_) (fun h=>by omega)
    have e:=fX (p:=VR) hi
    refine AB (fun h=>BA (by simp; omega) (G _ ?_)) (fun h=>G _ ?_)
    · rw [e,if_pos (by unfold VR; simpa using h)]
    · rw [e,if_neg (by unfold VR; simpa using h),List.append_nil]
  · subst D
    refine AB (fun h=>by omega) (fun _=>?_)
    rw [List.take_length]
    exact OI (Nat.le_trans (List.length_filter_le _ _) U) (fun e he=>J e (List.mem_filter.1 he).1) O
theorem sQ {g:AK} {Q:AK→Prop} (U:g.Edges.length≤1000000) (J:∀ e∈g.Edges,FL e.W) (O:Q (sP g)):VG g Q:=by
  unfold VG
  refine AV (fun (s:List AL) i=>(s,i)) 0 g.Edges.length (by omega) (fun i s=>s=(g.Edges.take i).filter VR) (by omega) rfl (fun i s next _ hi D G=>?_) (fun s next D=>?_)
  · subst D
    have hL:=lZ (p:=VR) (xs:=g.Edges) (Nat.le_of_lt hi)
    refine AB (fun _=>AW hi (AW hi ?_)) (fun h=>by omega)
    have e:=fX (p:=VR) hi
    refine AB (fun h=>AW hi (BA (by simp; omega) (G _ ?_))) (fun h=>G _ ?_)
    · rw [e,if_pos (by unfold VR; simpa using h)]
    · rw [e,if_neg (by unfold VR; simpa using h),List.append_nil]
  · subst D
    refine AB (fun h=>by omega) (fun _=>?_)
    rw [List.take_length]
    exact SG (Nat.le_trans (List.length_filter_le _ _) U) (fun e he=>J e (List.mem_filter.1 he).1) O
def IP (es:List AL) (a b:Int):Prop:=∃ e∈es,e.From=a∧e.To=b
theorem pY {r:Int} {k:FI}:∀ {D:List (FI×Int)} {o:Option AN},(o≠none∨∃ t∈D,k=t.1)→D.foldl (fun o t=>if k=t.1 then some (match o with | some w=>EK r w (LI t.2) | none=>LI t.2) else o) o≠none
  | [],o,h=>by
    rcases h with h | ⟨t,ht,_⟩
    · exact h
    · simp at ht
  | t :: D,o,h=>by
    rw [List.foldl_cons]
    refine pY ?_
    by_cases e:k=t.1
    · rw [if_pos e]; exact .inl (by simp)
    · rw [if_neg e]
      rcases h with h | ⟨x,hx,he⟩
      · exact .inl h
      · rcases List.mem_cons.1 hx with rfl | hx
        · exact absurd he e
        · exact .inr ⟨x,hx,he⟩
theorem mget_mem {κ α:Type} [DecidableEq κ] {k:κ}:∀ {l:List (κ×α)},BN k l≠none→∃ p∈l,p.1=k
  | [],h=>absurd rfl h
  | p :: l,h=>by
    by_cases e:k=p.1
    · exact ⟨p,by simp,e.symm⟩
    · have:BN k (p :: l)=BN k l:=by simp [BN,e]
      rw [this] at h
      obtain ⟨q,D,hk⟩:=mget_mem h
      exact ⟨q,by simp [D],hk⟩
theorem XF {es:List AL} (G:∀ e∈es,FL e.W) {a b:Int}:IP (EU es) a b↔IP es a b:=by
  constructor
  · rintro ⟨e,he,h⟩; exact ⟨e,SV G he,h⟩
  · rintro ⟨e,he,O,V⟩
    have hk:BN (a,b) (SC 1 (es.map cD))≠none:=by
      rw [lF]
      exact pY (.inr ⟨cD e,List.mem_map_of_mem he,by unfold cD; rw [O,V]⟩)
    obtain ⟨p,hp,D⟩:=mget_mem hk
    unfold EU
    rw [dN (fun t J=>by obtain ⟨x,U,rfl⟩:=List.mem_map.1 J; exact G x U)]
    refine ⟨yL p.1 (JC p.2).1,List.mem_map.2 ⟨p,hp,rfl⟩,?_⟩
    rw [D]
    exact ⟨rfl,rfl⟩
def AbE (g:AK) (a b:Int):Prop:=a≠b∧(IP g.Edges a b∨IP g.Edges b a)
def LJ (g:AK):AK:=YS (sP (WP g))
theorem mE {g:AK} (h:JH g.N g.Edges):JH (sP g).N (sP g).Edges∧(sP g).Edges.length≤g.Edges.length:=by
  have D:JH g.N (g.Edges.filter VR):=fun e he=>h e (List.mem_filter.1 he).1
  refine ⟨QW D,?_⟩
  have h1:=WO (ES D)
  have h2:=List.length_filter_le VR g.Edges
  show (EU _).length≤_
  omega
theorem AcS {es:List AL} {a b:Int}:IP (es.map XN) a b↔IP es b a:=by
  constructor
  · rintro ⟨e,he,h,D⟩
    obtain ⟨x,G,rfl⟩:=List.mem_map.1 he
    exact ⟨x,G,D,h⟩
  · rintro ⟨e,he,h,D⟩
    exact ⟨XN e,List.mem_map_of_mem he,D,h⟩
theorem AfC {es:List AL} {a b:Int}:IP (es.map sM) a b↔IP es a b:=by
  constructor
  · rintro ⟨e,he,h,D⟩
    obtain ⟨x,G,rfl⟩:=List.mem_map.1 he
    exact ⟨x,G,h,D⟩
  · rintro ⟨e,he,h,D⟩
    exact ⟨sM e,List.mem_map_of_mem he,h,D⟩
theorem AcT {g:AK} (h:JH g.N g.Edges) {a b:Int}:IP (WP g).Edges a b↔IP g.Edges a b∨IP g.Edges b a:=by
  have J:JH g.N (XP g).Edges:=QW (UH h)
  show IP (EU (g.Edges++(XP g).Edges)) a b↔_
  rw [XF (ES (pW h J))]
  have:IP (XP g).Edges a b↔IP g.Edges b a:=by
    show IP (EU _) a b↔_
    rw [XF (ES (UH h)),AcS]
  rw [←this]
  constructor
  · rintro ⟨e,he,D⟩
    rcases List.mem_append.1 he with G | G
    · exact .inl ⟨e,G,D⟩
    · exact .inr ⟨e,G,D⟩
  · rintro (⟨e,he,D⟩ | ⟨e,he,D⟩)
    · exact ⟨e,List.mem_append.2 (.inl he),D⟩
    · exact ⟨e,List.mem_append.2 (.inr he),D⟩
theorem sR {g:AK} {n:Nat} (hN:g.N=n) (h:JH g.N g.Edges):PlainP n (LJ g)∧(LJ g).Edges.length≤2*g.Edges.length∧∀ a b,IP (LJ g).Edges a b↔b<a∧AbE g a b:=by
  have V:=fY h
  have U:=mE V.1
  have hp:=mB U.1
  refine ⟨Ah3 (g:=sP (WP g)) hN U.1,by have:=hp.2.1; have:=U.2; have:=V.2.1; unfold LJ; omega,fun a b=>?_⟩
  have e1:IP (LJ g).Edges a b↔IP (sP (WP g)).Edges a b:=by
    show IP (EU _) a b↔_
    rw [XF (ES (SW U.1)),AfC]
  have e2:IP (sP (WP g)).Edges a b↔IP ((WP g).Edges.filter VR) a b:=XF fun e he=>ES V.1 e (List.mem_filter.1 he).1
  rw [e1,e2]
  have D:=AcT h (a:=a) (b:=b)
  constructor
  · rintro ⟨e,he,J,O⟩
    obtain ⟨Z,G⟩:=List.mem_filter.1 he
    have G:=of_decide_eq_true G
    rw [J,O] at G
    exact ⟨G,by omega,D.1 ⟨e,Z,J,O⟩⟩
  · rintro ⟨Y,_,W⟩
    obtain ⟨e,he,J,O⟩:=D.2 W
    exact ⟨e,List.mem_filter.2 ⟨he,decide_eq_true (by omega)⟩,J,O⟩
theorem AbF {g:AK} {Q:AK→Prop} (h:DW g=0) (O:Q (LJ g)):WE g Q:=by
  unfold WE
  obtain ⟨_,_,hl,_,_⟩:=GJ h
  have D:=PO h
  have G:=fY D
  have J:=mE G.1
  exact Ah1 (by omega) (ES D) (AfB (by omega) (ES G.1) (Af7 (by omega) O))
def fZ (a b:Int) (e:AL):Prop:=(e.From=a∧e.To=b)∨(e.From=b∧e.To=a)
instance (a b:Int) (e:AL):Decidable (fZ a b e):=by unfold fZ; infer_instance
def OJ (g:AK) (a b:Int):Bool:=decide (a≠b) && g.Edges.any fun e=>decide (fZ a b e)
theorem gA {g:AK} {a b:Int}:OJ g a b=true↔AbE g a b:=by
  unfold OJ AbE IP
  simp only [Bool.and_eq_true,decide_eq_true_eq,List.any_eq_true]
  constructor
  · rintro ⟨h,e,he,D | D⟩
    · exact ⟨h,.inl ⟨e,he,D⟩⟩
    · exact ⟨h,.inr ⟨e,he,D⟩⟩
  · rintro ⟨h,⟨e,he,D⟩ | ⟨e,he,D⟩⟩
    · exact ⟨h,e,he,.inl D⟩
    · exact ⟨h,e,he,.inr D⟩
theorem mF (g:AK) (a b:Int):OJ g a b=OJ g b a:=by
  have:∀ x y,OJ g x y=true→OJ g y x=true:=fun x y h=>by
    rw [gA] at *
    exact ⟨fun e=>h.1 e.symm,h.2.symm⟩
  cases h:OJ g a b with
  | true=>exact (this _ _ h).symm
  | false=>
    cases h2:OJ g b a with
    | false=>rfl
    | true=>rw [this _ _ h2] at h; cases h
theorem YU {g:AK} {a b:Int} {Q:Bool→Prop} (hl:g.Edges.length≤1000000) (Z:Q (OJ g a b)):PE g a b Q:=by
  unfold PE
  have J:∀ {i:Nat} (hi:i<g.Edges.length),a≠b→fZ a b g.Edges[i]→Q true:=fun {i} hi D G=>by
    have:OJ g a b=true:=by
      unfold OJ
      rw [decide_eq_true D,Bool.true_and,List.any_eq_true]
      exact ⟨_,List.getElem_mem hi,decide_eq_true G⟩
    rwa [this] at Z
  refine DC g.Edges.length (by omega) (fun i=>a≠b→∀ j (V:j<g.Edges.length),j<i→¬fZ a b g.Edges[j]) (fun _ j _ h=>by omega) (fun i next hi Y hn=>?_) (fun next Y=>?_)
  · have W:(a≠b→¬fZ a b g.Edges[i])→next (AJ ((i:Int)+1)):=fun h=>hn fun D j V hji=>by
      by_cases e:j=i
      · subst e; exact h D
      · exact Y D j V (by omega)
    refine AX (by simp; omega) (AW hi (FF (fun D=>?_) (fun D=>W fun h=>absurd D h)))
    have hX:¬(g.Edges[i].From=a∧g.Edges[i].To=b)→AR (g.Edges[i].From==b) (AR (g.Edges[i].To==a) (Q true) (next (AJ ((i:Int)+1)))) (next (AJ ((i:Int)+1))):=fun h=>by
      refine CC (fun O=>CC (fun U=>J hi D (.inr ⟨O,U⟩)) (fun U=>W fun _ G=>?_)) (fun O=>W fun _ G=>?_)
      · rcases G with G | G
        · exact h G
        · exact U G.2
      · rcases G with G | G
        · exact h G
        · exact O G.1
    exact CC (fun O=>CC (fun U=>J hi D (.inl ⟨O,U⟩)) (fun U=>hX fun h=>U h.2)) (fun O=>hX fun h=>O h.1)
  · refine AO (by simp) ?_
    have:OJ g a b=false:=by
      unfold OJ
      by_cases D:a=b
      · simp [D]
      · rw [decide_eq_true D,Bool.true_and,List.any_eq_false]
        intro e he
        obtain ⟨j,V,rfl⟩:=List.getElem_of_mem he
        simpa using Y D j V V
    rwa [this] at Z
abbrev T3:=Int×Int×Int
def CE (g:AK) (a b:Nat):Bool:=OJ g a b
def tC (nr:Nat→Nat→Bool) (a b k:Nat):List T3:=((List.range k).filter fun c=>decide (b<c) && (nr a c && nr b c)).map fun c:Nat=>((a:Int),(b:Int),(c:Int))
def tB (nr:Nat→Nat→Bool) (n a k:Nat):List T3:=(List.range k).flatMap fun b=>if a<b∧nr a b=true then tC nr a b n else []
def aC (nr:Nat→Nat→Bool) (n k:Nat):List T3:=(List.range k).flatMap fun a=>tB nr n a n
abbrev YV (nr:Nat→Nat→Bool) (n:Nat):List T3:=aC nr n n
variable {nr:Nat→Nat→Bool} {n:Nat}
theorem Ah4 (a b k:Nat):tC nr a b (k+1)=tC nr a b k++if b<k∧nr a k=true∧nr b k=true then [((a:Int),(b:Int),(k:Int))] else []:=by
  unfold tC
  rw [List.range_succ,List.filter_append,List.map_append]
  congr 1
  by_cases h:b<k∧nr a k=true∧nr b k=true
  · rw [if_pos h]; simp [List.filter_cons,h]
  · rw [if_neg h]
    have:(decide (b<k) && (nr a k && nr b k))=false:=by
      cases e:(decide (b<k) && (nr a k && nr b k)) with
      | false=>rfl
      | true=>simp only [Bool.and_eq_true,decide_eq_true_eq] at e; exact absurd e h
    simp [List.filter_cons,this]
theorem AiP {a b k:Nat} (h:k≤b+1):tC nr a b k=[]:=by
  unfold tC
  rw [List.filter_eq_nil_iff.2]
  · rfl
  · intro c D
    rw [List.mem_range] at D
    simp; omega
theorem sS (a k:Nat):tB nr n a (k+1)=tB nr n a k++if a<k∧nr a k=true then tC nr a k n else []:=by
  unfold tB
  rw [List.range_succ,List.flatMap_append]
  simp
theorem AiQ {a k:Nat} (h:k≤a+1):tB nr n a k=[]:=by
  unfold tB
  rw [List.flatMap_eq_nil_iff]
  intro b D
  rw [List.mem_range] at D
  rw [if_neg (by omega)]
theorem gB (k:Nat):aC nr n (k+1)=aC nr n k++tB nr n k n:=by
  unfold aC
  rw [List.range_succ,List.flatMap_append]
  simp
theorem zM (a b k:Nat):(tC nr a b k).length≤k:=by
  unfold tC
  rw [List.length_map]
  have:=List.length_filter_le (fun c=>decide (b<c) && (nr a c && nr b c)) (List.range k)
  rwa [List.length_range] at this
theorem zN (a:Nat):∀ k,(tB nr n a k).length≤k*n
  | 0=>by simp [tB]
  | k+1=>by
    rw [sS,List.length_append,Nat.succ_mul]
    have h1:=zN a k
    have h2:(if a<k∧nr a k=true then tC nr a k n else []).length≤n:=by
      split
      · exact zM a k n
      · simp
    omega
theorem WQ:∀ k,(aC nr n k).length≤k*(n*n)
  | 0=>by simp [aC]
  | k+1=>by
    rw [gB,List.length_append,Nat.succ_mul]
    have h1:=WQ k
    have h2:=zN (nr:=nr) (n:=n) k n
    omega
theorem ZX (h:n≤30) {k:Nat} (hk:k≤n):k*(n*n)≤27000∧k*n≤900∧n*n≤900:=by
  have h1:n*n≤30*30:=Nat.mul_le_mul h h
  have h2:k*(n*n)≤30*900:=Nat.mul_le_mul (by omega) (by omega)
  have h3:k*n≤30*30:=Nat.mul_le_mul (by omega) h
  omega
theorem iF {g:AK} {Q:List T3→Prop} (h:DW g=0) (hN:g.N=n) (hn:n≤30) (hQ:Q (YV (CE g) n)):MN g Q:=by
  unfold MN
  refine EM ?_
  obtain ⟨_,_,hl,_,_⟩:=GJ h
  rw [h,hN]
  refine AO (by simp) ?_
  have V:∀ i:Nat,i≤100→AJ ((i:Int)+1)=((i+1:Nat):Int):=fun i hi=>by rw [BE (by omega) (by omega)]; omega
  refine AV (fun (s:List T3) i=>(s,i)) 0 n (by omega) (fun a s=>s=aC (CE g) n a) (by omega) rfl (fun a s next _ ha O hx=>?_) (fun s next O=>AO (by simp) (by subst O; exact hQ))
  subst O
  refine AX (by simp; omega) ?_
  dsimp only
  rw [V a (by omega)]
  have hba:=ZX hn (Nat.le_of_lt ha)
  have hla:=WQ (nr:=CE g) (n:=n) a
  refine AV (fun (s:List T3) i=>(s,i)) (a+1) n (by omega) (fun b s=>s=aC (CE g) n a++tB (CE g) n a b) (by omega) (by rw [AiQ (by omega),List.append_nil]) (fun b s U hab hb O W=>?_) (fun s U O=>AO (by simp) ?_)
  rotate_left
  · subst O
    rw [V a (by omega)] at hx
    exact hx _ (gB a).symm
  subst O
  refine AX (by simp; omega) ?_
  dsimp only
  rw [V b (by omega)]
  have hbb:=ZX hn (Nat.le_of_lt hb)
  have hlb:=zN (nr:=CE g) (n:=n) a b
  refine AV (fun (s:List T3) i=>(s,i)) (b+1) n (by omega) (fun c s=>s=aC (CE g) n a++tB (CE g) n a b++if CE g a b=true then tC (CE g) a b c else []) (by omega) (by rw [AiP (by omega)]; simp) (fun c s J hbc hc O hz=>?_) (fun s J O=>AO (by simp) ?_)
  · subst O
    refine AX (by simp; omega) (YU (by omega) ?_)
    have G:=Ah4 (nr:=CE g) a b c
    have hlc:=zM (nr:=CE g) a b c
    cases hab2:OJ g a b with
    | false=>
      refine AO rfl ?_
      rw [V b (by omega)] at W
      refine W _ ?_
      rw [sS,if_neg (by unfold CE; rw [hab2]; simp),if_neg (by unfold CE; rw [hab2]; simp)]
      simp
    | true=>
      have D:CE g a b=true:=hab2
      rw [if_pos D]
      refine AX rfl (YU (by omega) ?_)
      have Z:¬(b<c∧CE g a c=true∧CE g b c=true)→J (aC (CE g) n a++tB (CE g) n a b++tC (CE g) a b c,AJ ((c:Int)+1)):=fun Y=>by
        refine hz _ ?_
        rw [if_pos D,G,if_neg Y,List.append_nil]
      cases hac:OJ g a c with
      | false=>exact AO rfl (Z fun h=>by have:=h.2.1; unfold CE at this; rw [hac] at this; cases this)
      | true=>
        refine AX rfl (YU (by omega) ?_)
        cases hbc2:OJ g b c with
        | false=>exact AO rfl (Z fun h=>by have:=h.2.2; unfold CE at this; rw [hbc2] at this; cases this)
        | true=>
          refine AX rfl (BA (by simp only [List.length_append,List.length_singleton]; omega) (hz _ ?_))
          rw [if_pos D,G,if_pos ⟨by omega,hac,hbc2⟩,List.append_assoc]
  · subst O
    rw [V b (by omega)] at W
    refine W _ ?_
    rw [sS]
    by_cases D:CE g a b=true
    · rw [if_pos D,if_pos ⟨by omega,D⟩,List.append_assoc]
    · rw [if_neg D,if_neg fun h=>D h.2,List.append_assoc]
theorem sU {g:AK} {Q:List T3→Prop} (h:DW g≠0) (D:Q []):MN g Q:=by
  unfold MN
  exact EM (AX (by simpa using h) D)
def upP (E:List AL) (v i:Nat):List Int:=((E.take i).filter fun e=>decide (e.To=(v:Int))).map fun e=>e.From
theorem AfD {E:List AL} {v i:Nat} (h:i<E.length):upP E v (i+1)=upP E v i++if E[i].To=(v:Int) then [E[i].From] else []:=by
  unfold upP
  rw [fX h,List.map_append]
  congr 1
  by_cases e:E[i].To=(v:Int)
  · simp [e]
  · simp [e]
theorem AbG (E:List AL) (v i:Nat) (h:i≤E.length):(upP E v i).length≤i:=by
  unfold upP
  rw [List.length_map]
  exact lZ h
def upF (E:List AL) (n v:Nat):List Int:=uY n (upP E v E.length)
def AcU (E:List AL) (n:Nat):List (List Int):=(List.range n).map (upF E n)
theorem AiR {g:AK} {Q:List (List Int)→Prop} (h:DW g=0) (hN:g.N=n) (hn:n≤4096) (hQ:Q (AcU (LJ g).Edges n)):ZM g Q:=by
  unfold ZM
  obtain ⟨_,_,hl,_,_⟩:=GJ h
  obtain ⟨U,hPl,_⟩:=sR hN (PO h)
  rw [hN]
  refine ⟨by omega,by omega,AbF h ?_⟩
  generalize LJ g=d at U hPl hQ
  have hr:List.replicate ((n:Int)).toNat ([]:List Int)=List.replicate n []:=by simp
  rw [hr]
  refine AV (fun (s:List (List Int)) i=>(s,i)) 0 d.Edges.length (by omega) (fun i s=>s.length=n∧∀ v (V:v<s.length),s[v]=upP d.Edges v i) (by omega) ⟨by simp,fun v V=>by simp [upP]⟩ (fun i s next _ hi O W=>?_) (fun s next O=>?_)
  · obtain ⟨Y,J⟩:=O
    have he:=(U.good _ (List.getElem_mem hi)).1
    unfold jO at he
    rw [U.N] at he
    obtain ⟨v,V⟩:∃ v:Nat,d.Edges[i].To=v:=⟨d.Edges[i].To.toNat,by omega⟩
    refine AX (by simp; omega) (AW hi ?_)
    rw [V]
    have G:v<s.length:=by omega
    have Z:=AbG d.Edges v i (by omega)
    refine AW G (BA (by rw [J v G]; simp; omega) (AW G ?_))
    rw [Int.toNat_natCast]
    refine W _ ⟨by simp [Y],fun u hu=>?_⟩
    rw [AfD hi,List.getElem_set]
    by_cases e:v=u
    · subst e
      rw [if_pos rfl,if_pos V,J v G]
    · rw [if_neg e,if_neg (by rw [V]; omega),List.append_nil]
      exact J u (by simpa using hu)
  · obtain ⟨Y,J⟩:=O
    refine AO (by simp) ?_
    refine AV (fun (o:List (List Int)) i=>(o,s,i)) 0 n (by omega) (fun i o=>o=(List.range i).map (upF d.Edges n)) (by omega) rfl (fun i o nx _ hi O hy=>?_) (fun o nx O=>?_)
    · subst O
      have D:i<s.length:=by omega
      have Z:=AbG d.Edges i d.Edges.length (Nat.le_refl _)
      refine AX (by simp; omega) (AW D (vD (by rw [J i D]; omega) (fun x W=>?_) (BA (by simp; omega) (hy _ ?_))))
      · rw [J i D] at W
        obtain ⟨e,he,rfl⟩:=List.mem_map.1 W
        have:=(U.good _ (List.mem_of_mem_take (List.mem_filter.1 he).1)).1
        unfold jO at this
        rw [U.N] at this
        unfold FL; omega
      · rw [List.range_succ,List.map_append,J i D]; rfl
    · subst O
      exact AO (by simp [Y]) hQ
theorem WR (E:List AL) (hn:n≤4096) (v:Nat):okF (upF E n v)∧(upF E n v).length=LP n∧∀ j,MV (upF E n v) j=true↔IP E j v∧0≤j∧j<n:=by
  obtain ⟨U,V,O⟩:=vC n (upP E v E.length)
  refine ⟨U,V,fun j=>?_⟩
  show MV (uY n _) j=true↔_
  rw [O,decide_eq_true_eq]
  unfold upP IP
  rw [List.take_length]
  constructor
  · rintro ⟨W,h,D,_⟩
    obtain ⟨e,he,rfl⟩:=List.mem_map.1 W
    obtain ⟨J,G⟩:=List.mem_filter.1 he
    exact ⟨⟨e,J,rfl,of_decide_eq_true G⟩,h,D⟩
  · rintro ⟨⟨e,he,e1,e2⟩,h,D⟩
    exact ⟨List.mem_map.2 ⟨e,List.mem_filter.2 ⟨he,decide_eq_true e2⟩,e1⟩,h,D,by omega⟩
end Go.Proofs.YtbohadngdkjljaaGreat
