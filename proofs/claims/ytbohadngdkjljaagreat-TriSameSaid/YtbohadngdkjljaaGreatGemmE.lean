import Derived.Test.YtbohadngdkjljaaGreatPushH
namespace Go.Proofs.YtbohadngdkjljaaGreat
open Go Go.Fw
set_option linter.unusedVariables false
set_option linter.unusedSimpArgs false
theorem Aa5 (a b:AP):fG a b∨fG b a:=by unfold fG; omega
theorem AcC {a b:AP} (h:fG a b) (h':fG b a):a=b:=by unfold fG at *; exact PS (by omega) (by omega)
theorem Aa6 {a b c:AP} (h:fG a b) (h':fG b c):fG a c:=by unfold fG at *; omega
def fX (a b:AP):AP:=if fG a b then a else b
theorem Aa7 (a b:AP):fX a b=fX b a:=by
  unfold fX
  by_cases h:fG a b <;> by_cases h':fG b a
  · rw [if_pos h,if_pos h']; exact AcC h h'
  · rw [if_pos h,if_neg h']
  · rw [if_neg h,if_pos h']
  · rcases Aa5 a b with e | e
    · exact absurd e h
    · exact absurd e h'
theorem vS (a b c:AP):fX (fX a b) c=fX a (fX b c):=by
  unfold fX
  by_cases h1:fG a b <;> by_cases h2:fG b c <;> by_cases h3:fG a c <;> simp only [h1,h2,h3,if_true,if_false]
  · exact absurd (Aa6 h1 h2) h3
  · exfalso; unfold fG at *; omega
theorem Aa8 {r:Int} {a b:AP} (ha:PB a) (hb:PB b):GG r a b=GG r b a:=by
  by_cases h:r=1∨r=3∨r=4
  · have e:∀ a b,GG r a b=fX a b:=fun a b=>by unfold GG fX; rw [if_pos h]
    rw [e,e]; exact Aa7 a b
  · by_cases h2:r=2
    · unfold GG
      rw [if_neg h,if_pos h2,if_neg h,if_pos h2]
      by_cases e1:a=⟨0,0⟩ <;> by_cases e2:b=⟨0,0⟩ <;> simp [e1,e2]
    · by_cases h5:r=5
      · subst h5
        rw [bZ ha,bZ hb,QZ,QZ,Int.add_comm]
      · unfold GG; rw [if_neg h,if_neg h2,if_neg h5,if_neg h,if_neg h2,if_neg h5]
theorem vT {r:Int} {a b c:AP} (ha:PB a) (hb:PB b) (hc:PB c):GG r (GG r a b) c=GG r a (GG r b c):=by
  by_cases h:r=1∨r=3∨r=4
  · have e:∀ a b,GG r a b=fX a b:=fun a b=>by unfold GG fX; rw [if_pos h]
    simp only [e]; exact vS a b c
  · by_cases h2:r=2
    · have e:∀ a b,GG r a b=if a=⟨0,0⟩∧b=⟨0,0⟩ then ⟨0,0⟩ else ⟨0,1⟩:=fun a b=>by unfold GG; rw [if_neg h,if_pos h2]
      have n1:(⟨0,1⟩:AP)≠⟨0,0⟩:=by decide
      simp only [e]
      by_cases e1:a=⟨0,0⟩ <;> by_cases e2:b=⟨0,0⟩ <;> by_cases e3:c=⟨0,0⟩ <;> simp [e1,e2,e3]
    · by_cases h5:r=5
      · subst h5
        rw [bZ ha,bZ hb,bZ hc,QZ,QZ,QZ,QZ,Int.add_assoc]
      · unfold GG
        simp only [if_neg h,if_neg h2,if_neg h5]
def okO (o:Option AP):Prop:=∀ w,o=some w→PB w
theorem AcD {r:Int} {a b:Option AP} (ha:okO a) (hb:okO b):gU r a b=gU r b a:=by
  cases a with
  | none=>cases b <;> rfl
  | some x=>cases b with
    | none=>rfl
    | some y=>simp only [gU]; rw [Aa8 (ha x rfl) (hb y rfl)]
theorem VS {r:Int} {a b c:Option AP} (ha:okO a) (hb:okO b) (hc:okO c):gU r (gU r a b) c=gU r a (gU r b c):=by
  cases a with
  | none=>cases b <;> rfl
  | some x=>cases b with
    | none=>cases c <;> rfl
    | some y=>cases c with
      | none=>rfl
      | some z=>simp only [gU]; rw [vT (ha x rfl) (hb y rfl) (hc z rfl)]
theorem dU (r:Int) (n:Nat) (A B:Int→Option Int):XK r (n+1) A B=fK r A B (XK r n A B) n:=by
  unfold XK; rw [List.range_succ,List.foldl_append]; rfl
theorem sI (r:Int) (k:Nat) (A B:Int→Option Int):∀ m:Nat,XK r (k+m) A B=gU r (XK r k A B) (XK r m (fun j=>A (j+k)) (fun j=>B (j+k)))
  | 0=>by rw [Nat.add_zero,show XK r 0 (fun j=>A (j+k)) (fun j=>B (j+k))=none from rfl,NM]
  | m+1=>by
    rw [←Nat.add_assoc,dU,dU,sI r k A B m]
    have ho:=sH r m (fun j=>A (j+k)) (fun j=>B (j+k))
    generalize XK r m (fun j=>A (j+k)) (fun j=>B (j+k))=o at ho ⊢
    unfold fK
    rw [show (((k+m:Nat):Int))=(m:Int)+k by omega]
    simp only
    cases hA:A ((m:Int)+k) with
    | none=>rfl
    | some a=>cases hB:B ((m:Int)+k) with
      | none=>rfl
      | some x=>
        have hm:okO (some (jD r a x)):=fun w hw=>by
          have:=Option.some.inj hw
          subst this; exact PU _ _ _
        exact VS (sH r k A B) ho hm
theorem ZV {r:Int} {n:Nat} {A A' B B':Int→Option Int} (hA:∀ j:Nat,j<n→A j=A' j) (hB:∀ j:Nat,j<n→B j=B' j):XK r n A B=XK r n A' B':=by
  unfold XK
  refine WG fun acc k hk=>?_
  have hk:=List.mem_range.1 hk
  unfold fK
  rw [hA k hk,hB k hk]
theorem AeR {l:List DS} (h:IncI l) {i a:Int}:WU l i=some a↔(⟨i,a⟩:DS)∈l:=⟨yH,fun hm=>yI h hm⟩
theorem AeS {x y:Option Int} (h:∀ a,x=some a↔y=some a):x=y:=by
  cases x with
  | none=>cases y with
    | none=>rfl
    | some b=>have:=(h b).2 rfl; cases this
  | some a=>exact ((h a).1 rfl).symm
def vU (B:List AD) (c:Int) (k:Int):Option Int:=WU (cE B k) c
def MN (r:Int) (A B:List AD) (i c:Int):Option AP:=(cE A i).foldl (VR r (vU B c)) none
def HV (r:Int) (A B:List AD) (t:AD):Option AJ:=(MN r A B t.Row t.Col).map fun w=>⟨t.Row,t.Col,w⟩
def FB (r:Int) (A B M:List AD):List AJ:=M.filterMap (HV r A B)
theorem WH {rows cols:Int} {ts:List AD} {i:Nat} {Q:List Int×List Int→Prop} (h:Canon rows cols ts) (hi:(i:Int)<rows) (hQ:Q ((KP ts i).map (·.Col),(KP ts i).map (·.Val))):RN (BO rows cols ts) i Q:=by
  unfold RN
  have hr:=h.r1
  obtain ⟨lo,hi',s⟩:=h.seg i
  have e1:AH ((i:Int)+1)=(i+1:Nat):=by rw [AY (by omega) (by omega)]; omega
  rw [e1]
  refine YG (by omega) (YG (by omega) ?_)
  rw [s.lo,s.hi]
  have h1:=s.le; have h2:=s.len
  have hc:(BO rows cols ts).Col.length=ts.length:=by simp [BO]
  have hv:(BO rows cols ts).Val.length=ts.length:=by simp [BO]
  refine ⟨by omega,by omega,by omega,by omega,by omega,by omega,?_⟩
  simp only [Int.toNat_natCast,BO,←List.map_take,←List.map_drop,s.eq]
  exact hQ
theorem oY {l:List Rows} {Q:List Rows→Prop} (hl:l.length≤100) (h:∀ a∈l,small a∧WD a) (hQ:Q l):YA l Q:=by
  unfold YA
  refine AU (fun (s:List Rows) i=>(s,i)) 0 l.length (by omega) (fun i s=>s=l.take i) (by omega) rfl (fun i s next _ hi hm hn=>?_) (fun s next hm=>?_)
  · subst hm
    have hx:=h _ (List.getElem_mem hi)
    refine AC (fun _=>BK hi (bX hx.1 ?_)) (fun h=>by omega)
    rw [decide_eq_true hx.2]
    refine AN rfl (BB (by simp; omega) (hn _ ?_))
    rw [List.take_succ_eq_append_getElem hi]
  · subst hm
    rw [List.take_length]
    exact AC (fun h=>by omega) (fun _=>hQ)
theorem oZ {ts:List AD} (h:Srt ts) (i:Nat):IncI ((KP ts i).map WT):=by
  unfold IncI KP
  rw [List.pairwise_map]
  refine List.Pairwise.imp_of_mem ?_ (List.Pairwise.filter _ h)
  intro a b ha hb hab
  have h1:=of_decide_eq_true (List.mem_filter.1 ha).2
  have h2:=of_decide_eq_true (List.mem_filter.1 hb).2
  unfold TT key at hab
  simp only [WT]
  simp only at hab
  omega
def AcE (m:List (Int×AP)) (asked:Int→Bool) (f:Int→Option AP):Prop:=(∀ c,asked c=true→BM c m=f c)∧∀ c w,BM c m=some w→PB w
theorem AgO {l:List (Int×Bool)} {k:Int} {C:Bool→Prop} (h:C ((BM k l).getD false)):zL l k false C:=KK h
theorem sJ {r ra ca rb cb:Int} {A B:List AD} {asked:List (Int×Bool)} {i:Nat} {Q:List (Int×AP)→Prop} (hA:Canon ra ca A) (hB:Canon rb cb B) (hab:ca≤rb) (hi:(i:Int)<ra) (hr:1≤r∧r≤5) (hvA:∀ t∈A,FR t.Val) (hvB:∀ t∈B,FR t.Val)
    (hQ:∀ m,AcE m (fun c=>(BM c asked).getD false) (MN r A B i)→Q m):QW asked r (BO ra ca A) (BO rb cb B) i Q:=by
  unfold QW
  refine WH hA hi ?_
  have hsl:=TA A i
  have hAl:=hA.len
  have hBl:=hB.len
  have hrow:∀ t∈KP A i,(0≤t.Col∧t.Col<ca)∧FR t.Val:=fun t ht=>by
    have hm:=(List.mem_filter.1 ht).1
    have:=hA.inn t hm
    unfold ZB at this
    exact ⟨⟨this.2.2.1,this.2.2.2⟩,hvA t hm⟩
  unfold MN at hQ
  rw [show cE A (i:Int)=(KP A i).map WT from rfl] at hQ
  generalize KP A i=xs at hQ hsl hrow
  refine AU (fun (s:List (Int×AP)) k=>(s,k)) 0 xs.length (by omega) (fun k m=>AcE m (fun c=>(BM c asked).getD false) fun c=>((xs.take k).map WT).foldl (VR r (vU B c)) none) (by omega) ⟨fun c _=>rfl,fun c w h=>by simp [BM] at h⟩ (fun k m next _ hk hm hn=>?_) (fun m next hm=>?_)
  · dsimp only
    have hx:=hrow _ (List.getElem_mem hk)
    refine AC (fun _=>AO (by omega) (x:=xs[k].Col) (by simp [hk]) ?_) (fun h=>by simp at h; omega)
    obtain ⟨c0,hc0⟩:∃ c0:Nat,xs[k].Col=(c0:Int):=⟨xs[k].Col.toNat,by omega⟩
    rw [hc0]
    refine WH hB (by omega) ?_
    have hinc:=oZ hB.srt c0
    have hsl2:=TA B c0
    have hrow2:∀ t∈KP B c0,FR t.Val:=fun t ht=>hvB t (List.mem_filter.1 ht).1
    have hbat:∀ c,vU B c xs[k].Col=WU ((KP B c0).map WT) c:=fun c=>by unfold vU cE; rw [hc0]; rfl
    generalize KP B c0=ys at hinc hsl2 hrow2 hbat
    -- how it is behind so many of the row's items
    let F:Nat→Int→Option AP:=fun j c=>match WU ((ys.take j).map WT) c with
      | some b=>gU r (((xs.take k).map WT).foldl (VR r (vU B c)) none) (some (jD r xs[k].Val b))
      | none=>((xs.take k).map WT).foldl (VR r (vU B c)) none
    have hF0:F 0=fun c=>((xs.take k).map WT).foldl (VR r (vU B c)) none:=rfl
    refine AU (fun (s:List (Int×AP)) j=>(s,j)) 0 ys.length (by omega) (fun j m=>AcE m (fun c=>(BM c asked).getD false) (F j)) (by omega) (by rw [hF0]; exact hm) (fun j m' nx _ hj hm' hnx=>?_) (fun m' nx hm'=>?_)
    · dsimp only
      have htk:(ys.take (j+1)).map WT=(ys.take j).map WT++[WT ys[j]]:=HU hj
      have hFs:∀ c,F (j+1) c=if c=ys[j].Col then F (j+1) c else F j c:=fun c=>by
        by_cases e:c=ys[j].Col
        · rw [if_pos e]
        · rw [if_neg e]
          have:WU ((ys.take (j+1)).map WT) c=WU ((ys.take j).map WT) c:=by
            rw [htk,TC]
            have h0:WU [WT ys[j]] c=none:=cC fun s hs=>by simp only [List.mem_singleton] at hs; subst hs; exact fun h=>e h.symm
            rw [h0]; split <;> simp_all
          show (match WU ((ys.take (j+1)).map WT) c with | some b=>_ | none=>_)=_
          rw [this]
      have hnew:WU ((ys.take j).map WT) ys[j].Col=none:=cC fun s hs=>by
        obtain ⟨t,ht,rfl⟩:=List.mem_map.1 hs
        obtain ⟨q,hq,rfl⟩:=List.getElem_of_mem ht
        rw [List.length_take] at hq
        rw [List.getElem_take]
        have hlen:(ys.map WT).length=ys.length:=by simp
        have:=hinc.at (i:=q) (j:=j) (by omega) (by omega)
        simp only [List.getElem_map] at this
        intro h
        simp only [WT] at this h
        omega
      have hold:F j ys[j].Col=((xs.take k).map WT).foldl (VR r (vU B ys[j].Col)) none:=by
        show (match WU ((ys.take j).map WT) ys[j].Col with | some b=>_ | none=>_)=_
        rw [hnew]
      have hhit:F (j+1) ys[j].Col=gU r (F j ys[j].Col) (some (jD r xs[k].Val ys[j].Val)):=by
        rw [hold]
        have:WU ((ys.take (j+1)).map WT) ys[j].Col=some ys[j].Val:=by rw [htk,TC,hnew]; simp [PV,WT]
        show (match WU ((ys.take (j+1)).map WT) ys[j].Col with | some b=>_ | none=>_)=_
        rw [this]
      have hy:=hrow2 _ (List.getElem_mem hj)
      refine AC (fun _=>AO (by omega) (x:=ys[j].Col) (by simp [hj]) (AgO ?_)) (fun h=>by simp at h; omega)
      cases ha:(BM ys[j].Col asked).getD false with
      | false=>
        refine BC rfl (hnx _ ⟨fun c hc=>?_,hm'.2⟩)
        rw [hFs,if_neg (fun e=>by subst e; simp only at hc; rw [ha] at hc; cases hc)]
        exact hm'.1 c hc
      | true=>
        have hcur:=hm'.1 ys[j].Col ha
        refine AN rfl (AO (by omega) (x:=xs[k].Val) (by simp [hk]) (AO (by omega) (x:=ys[j].Val) (by simp [hj]) (rU hx.2 hy (W3 (fun w hw=>?_) (fun hw=>?_)))))
        · refine BC rfl (PT (hm'.2 _ _ hw) (PU _ _ _) (hnx _ ⟨fun c hc=>?_,fun c u hu=>?_⟩))
          · by_cases e:c=ys[j].Col
            · subst e; rw [BN,hhit,←hcur,hw]; rfl
            · rw [BD e,hFs,if_neg e]; exact hm'.1 c hc
          · by_cases e:c=ys[j].Col
            · subst e; rw [BN] at hu; cases hu; exact SY (hm'.2 _ _ hw) (PU _ _ _)
            · rw [BD e] at hu; exact hm'.2 c u hu
        · refine AN rfl (hnx _ ⟨fun c hc=>?_,fun c u hu=>?_⟩)
          · by_cases e:c=ys[j].Col
            · subst e; rw [BN,hhit,←hcur,hw]; rfl
            · rw [BD e,hFs,if_neg e]; exact hm'.1 c hc
          · by_cases e:c=ys[j].Col
            · subst e; rw [BN] at hu; cases hu; exact PU _ _ _
            · rw [BD e] at hu; exact hm'.2 c u hu
    · dsimp only
      refine AC (fun h=>by simp at h) (fun _=>hn _ ⟨fun c hc=>?_,hm'.2⟩)
      rw [hm'.1 c hc,HU hk]
      show F ys.length c=List.foldl (VR r (vU B c)) none ((xs.take k).map WT++[WT xs[k]])
      rw [List.foldl_append]
      show (match WU ((ys.take ys.length).map WT) c with | some b=>_ | none=>_)=VR r (vU B c) _ (WT xs[k])
      rw [List.take_length,←hbat c]
      unfold VR
      simp only [WT]
      all_goals (split <;> simp_all)
  · dsimp only
    rw [List.take_length] at hm
    exact AC (fun h=>by simp at h) (fun _=>hQ m hm)
def vV (r ra ca rb cb rm cm:Int) (A B M:List AD):List AJ×Int:=
  if ¬(1≤r∧r≤5) then ([],8) else if ca≠rb∨rm≠ra∨cm≠cb then ([],4) else (FB r A B M,0)
theorem Aa9 (r:Int) (A B M:List AD):(FB r A B M).length≤M.length:=List.length_filterMap_le _ _
theorem AcF {T:List AD} {i lo hi:Nat} (s:Seg T i lo hi):T.take hi=T.take lo++KP T i:=by
  have h:=List.take_append_drop lo (T.take hi)
  rw [s.eq,List.take_take,Nat.min_eq_left s.le] at h
  exact h.symm
theorem kY {r ra ca rb cb rm cm:Int} {A B M:List AD} {Q:List AJ×Int→Prop} (hA:Canon ra ca A) (hB:Canon rb cb B) (hM:Canon rm cm M) (hvA:∀ t∈A,FR t.Val) (hvB:∀ t∈B,FR t.Val)
    (hQ:Q (vV r ra ca rb cb rm cm A B M)):SM r (BO ra ca A) (BO rb cb B) (BO rm cm M) Q:=by
  unfold SM
  refine oY (by simp) (fun a ha=>?_) (AO (by omega) rfl (AO (by omega) rfl (AO (by omega) rfl (KG ?_))))
  · simp only [List.mem_cons,List.not_mem_nil,or_false] at ha
    rcases ha with rfl | rfl | rfl
    · exact ⟨hA.sml,hA.right⟩
    · exact ⟨hB.sml,hB.right⟩
    · exact ⟨hM.sml,hM.right⟩
  unfold vV at hQ
  refine CO (fun h=>?_) (fun h=>?_)
  · rwa [if_pos (of_decide_eq_false h)] at hQ
  have hr:=of_decide_eq_true h
  rw [if_neg (fun h=>h hr)] at hQ
  have hbad (hb:ca≠rb∨rm≠ra∨cm≠cb):Q ([],4):=by rwa [if_pos hb] at hQ
  refine FT (fun h=>hbad (.inl h)) (fun h1=>FT (fun h=>hbad (.inr (.inl h))) (fun h2=>FT (fun h=>hbad (.inr (.inr h))) (fun h3=>?_)))
  have h1:ca=rb:=h1
  have h2:rm=ra:=h2
  have h3:cm=cb:=h3
  rw [if_neg (by omega)] at hQ
  have hrm:=hM.r0; have hrm1:=hM.r1; have hMl:=hM.len
  obtain ⟨n,hn⟩:∃ n:Nat,rm=(n:Int):=⟨rm.toNat,by omega⟩
  have hR:(BO rm cm M).Rows=(n:Int):=hn
  rw [hR]
  refine AU (fun (s:List AJ) i=>(s,i)) 0 n (by omega) (fun i s=>s=(M.take (GL M i).toNat).filterMap (HV r A B)) (by omega) (by rw [ZU (fun t ht=>(hM.inn t ht).1)]; rfl) (fun i s next _ hi hm hnx=>?_) (fun s next hm=>?_)
  · subst hm
    dsimp only
    obtain ⟨lo,hi',sg⟩:=hM.seg i
    have hlo:=sg.lo; have hhi:=sg.hi; have hle:=sg.le; have hlen:=sg.len
    have htk:=AcF sg
    rw [show (GL M i).toNat=lo by omega]
    have hnx':=hnx ((M.take lo).filterMap (HV r A B)++(KP M i).filterMap (HV r A B)) (by rw [show (GL M (i+1)).toNat=hi' by omega,htk,List.filterMap_append])
    clear hnx
    have hrow:∀ t∈KP M i,t.Row=(i:Int):=fun t ht=>of_decide_eq_true (List.mem_filter.1 ht).2
    have hout:((M.take lo).filterMap (HV r A B)).length≤65536:=by
      have:=List.length_filterMap_le (HV r A B) (M.take lo)
      rw [List.length_take] at this; omega
    have hsl:=TA M i
    refine AC (fun _=>WH hM (by omega) ?_) (fun h=>by omega)
    generalize (M.take lo).filterMap (HV r A B)=out at hnx' hout ⊢
    generalize KP M i=xs at hnx' hrow hsl ⊢
    refine AU (fun (s:List (Int×Bool)) k=>(s,k)) 0 xs.length (by omega) (fun k m=>∀ q (hq:q<xs.length),q<k→BM xs[q].Col m=some true) (by omega) (fun q hq h=>by omega) (fun k m nx _ hk hm hnk=>?_) (fun m nx hm=>?_)
    · dsimp only
      refine AC (fun _=>AO (by omega) (x:=xs[k].Col) (by simp [hk]) (hnk _ fun q hq hqk=>?_)) (fun h=>by simp at h; omega)
      by_cases e:xs[q].Col=xs[k].Col
      · rw [e,BN]
      · rw [BD e]
        refine hm q hq ?_
        by_cases e2:q=k
        · subst e2; exact absurd rfl e
        · omega
    · dsimp only
      refine AC (fun h=>by simp at h) (fun _=>?_)
      refine sJ hA hB (by omega) (by omega) hr hvA hvB fun sums hsums=>?_
      refine AU (fun (s:List AJ) k=>(s,k)) 0 xs.length (by omega) (fun k s=>s=out++(xs.take k).filterMap (HV r A B)) (by omega) (by simp) (fun k s ny _ hk hm2 hny=>?_) (fun s ny hm2=>?_)
      · subst hm2
        dsimp only
        have hlk:=List.length_filterMap_le (HV r A B) (xs.take k)
        rw [List.length_take] at hlk
        have hask:=hm k hk hk
        have hcur:=hsums.1 xs[k].Col (by simp only [hask]; rfl)
        have hcell:HV r A B xs[k]=(MN r A B i xs[k].Col).map fun w=>⟨(i:Int),xs[k].Col,w⟩:=by
          unfold HV; rw [hrow _ (List.getElem_mem hk)]
        have hstep:(xs.take (k+1)).filterMap (HV r A B)=(xs.take k).filterMap (HV r A B)++(HV r A B xs[k]).toList:=by
          rw [List.take_succ_eq_append_getElem hk,List.filterMap_append]
          congr 1
        refine AC (fun _=>AO (by omega) (x:=xs[k].Col) (by simp [hk]) (W3 (fun w hw=>?_) (fun hw=>?_))) (fun h=>by simp at h; omega)
        · refine BC rfl (BB (by simp; omega) (hny _ ?_))
          rw [hstep,hcell,←hcur,hw,List.append_assoc]; rfl
        · refine AN rfl (hny _ ?_)
          rw [hstep,hcell,←hcur,hw]; simp
      · subst hm2
        dsimp only
        rw [List.take_length]
        exact AC (fun h=>by simp at h) (fun _=>hnx')
  · subst hm
    dsimp only
    refine AC (fun h=>by omega) (fun _=>?_)
    have:=dT hM
    rw [show rm.toNat=n by omega] at this
    rw [this,Int.toNat_natCast,List.take_length]
    exact hQ
def gV (a b:AJ):Prop:=TT (a.Row,a.Col) (b.Row,b.Col)
structure yJ (rows cols:Int) (l:List AJ):Prop where
  inc:l.Pairwise gV
  inn:∀ c∈l,(0≤c.Row∧c.Row<rows)∧(0≤c.Col∧c.Col<cols)
  ok:∀ c∈l,PB c.Val
  len:l.length≤65536
theorem gW {r ra ca rb cb rm cm:Int} {A B M:List AD} (hM:Canon rm cm M):yJ rm cm (FB r A B M):=by
  have hmem:∀ c∈FB r A B M,∃ t∈M,c.Row=t.Row∧c.Col=t.Col∧PB c.Val:=fun c hc=>by
    obtain ⟨t,ht,he⟩:=List.mem_filterMap.1 hc
    unfold HV at he
    cases hw:MN r A B t.Row t.Col with
    | none=>rw [hw] at he; cases he
    | some w=>rw [hw] at he; cases he; exact ⟨t,ht,rfl,rfl,mH r _ _ none (fun _ h=>by cases h) w hw⟩
  refine ⟨?_,fun c hc=>?_,fun c hc=>?_,Nat.le_trans (Aa9 r A B M) hM.len⟩
  · refine List.Pairwise.filterMap _ (fun a b hab c hc d hd=>?_) hM.srt
    unfold HV at hc hd
    cases hw:MN r A B a.Row a.Col with
    | none=>rw [hw] at hc; cases hc
    | some w=>
      cases hu:MN r A B b.Row b.Col with
      | none=>rw [hu] at hd; cases hd
      | some u=>rw [hw] at hc; rw [hu] at hd; cases hc; cases hd; exact hab
  · obtain ⟨t,ht,h1,h2,_⟩:=hmem c hc
    have:=hM.inn t ht
    unfold ZB at this
    omega
  · obtain ⟨t,_,_,_,h⟩:=hmem c hc; exact h
theorem UM (x y:AJ):uP (OP x.Row y.Row) (OP x.Col y.Col)<0↔gV x y:=by
  unfold gV TT uP OP
  simp only
  split <;> split <;> (try split) <;> omega
theorem UZ {x y:AJ} {Q:Int→Prop} (h:Q (uP (OP x.Row y.Row) (OP x.Col y.Col))):SN x y Q:=by
  unfold SN
  exact FM (FM (fF h))
theorem kZ {l:List AJ} {Q:Bool→Prop} (hl:l.length≤1000000) (h:l.Pairwise gV) (hQ:Q true):KD l Q:=by
  unfold KD
  refine EM l.length (by omega) (fun _=>True) trivial (fun i next hi _ hn=>?_) (fun next _=>?_)
  · refine AC (fun _=>AC (fun hp=>?_) (fun _=>hn trivial)) (fun h=>by omega)
    have e:AH ((i:Int) - 1)=((i - 1:Nat):Int):=by rw [AY (by omega) (by omega)]; omega
    rw [e]
    refine BK (by omega) (BK hi (UZ (AC (fun h0=>?_) (fun _=>hn trivial))))
    have h1:=(UM l[i - 1] l[i]).2 (List.pairwise_iff_getElem.1 h (i - 1) i (by omega) hi (by omega))
    omega
  · exact AC (fun h=>by omega) (fun _=>hQ)
def pA (r:Int) (c:AJ):Option AD:=if (KV c.Val).1≠zS r then some ⟨c.Row,c.Col,(KV c.Val).1⟩ else none
def VT (r rows cols:Int) (l:List AJ):Rows×Int:=if l.all (fun c=>(KV c.Val).2) then ofS r rows cols (l.filterMap (pA r)) else (zR,12)
theorem AcG (a:AP):FR (KV a).1:=by
  unfold KV FR
  split
  · rw [IY]; omega
  · simp
theorem pB {r:Int} {l:List AJ}:∀ t∈l.filterMap (pA r),FR t.Val:=fun t ht=>by
  obtain ⟨c,_,he⟩:=List.mem_filterMap.1 ht
  unfold pA at he
  split at he
  · cases he; exact AcG _
  · cases he
theorem AaA {r:Int} {l:List AJ} {i:Nat} (hi:i<l.length):(l.take (i+1)).filterMap (pA r)=(l.take i).filterMap (pA r)++(pA r l[i]).toList:=by
  rw [List.take_succ_eq_append_getElem hi,List.filterMap_append]
  congr 1
theorem pC {r rows cols:Int} {l:List AJ} {Q:Rows×Int→Prop} (hr:1≤r∧r≤5) (h0:(0≤rows∧rows≤4096)∧(0≤cols∧cols≤4096)) (h:yJ rows cols l) (hQ:Q (VT r rows cols l)):YB r rows cols l Q:=by
  unfold YB FY
  have hl:=h.len
  refine KG ?_
  rw [decide_eq_true hr]
  refine AN rfl ?_
  unfold KE
  refine AC (fun _=>CO (fun hn=>by have:=of_decide_eq_false hn; omega) (fun _=>AC (fun _=>?_) (fun h=>by omega))) (fun h=>by omega)
  dsimp only
  rw [show (!decide (cols≤4096))=false by simp; omega]
  refine AN rfl ?_
  have hk:KD l fun r155=>AQ (!r155) (Q (zR,6)) (AQ (decide (65536<(l.length:Int))) (Q (zR,5)) (BE (fun (s:(List AD)×Int) (next454:((List AD)×Int)→Prop)=>match s with | (s448,s452)=>AQ (decide (s452<(l.length:Int))) (BF l s452 fun x472=>ID r x472.Val fun r486=>AQ (!r486.2) (Q (zR,12)) (RO r fun r496=>AQ (r486.1 != r496) (HI 24 s448 ([({ Row:=x472.Row,Col:=x472.Col,Val:=r486.1 }:AD)]) fun _=>next454 ((s448++([({ Row:=x472.Row,Col:=x472.Col,Val:=r486.1 }:AD)])),AH (s452+1))) (next454 (s448,AH (s452+1))))) (SK r rows cols s448 fun r512=>Q (r512.1,r512.2))) (([]:List AD),0))):=by
    refine kZ (by omega) h.inc (AN rfl (AC (fun h=>by omega) (fun _=>?_)))
    refine AU (fun (s:List AD) i=>(s,i)) 0 l.length (by omega) (fun i s=>s=(l.take i).filterMap (pA r)∧∀ q (hq:q<l.length),q<i→(KV l[q].Val).2=true) (by omega) ⟨rfl,fun q hq h=>by omega⟩ (fun i s next _ hi hm hn=>?_) (fun s next hm=>?_)
    · obtain ⟨rfl,hok⟩:=hm
      have hst:=AaA (r:=r) hi
      have hlk:=List.length_filterMap_le (pA r) (l.take i)
      rw [List.length_take] at hlk
      refine AC (fun _=>BK hi (YF (h.ok _ (List.getElem_mem hi)) ?_)) (fun h=>by omega)
      cases hb:(KV l[i].Val).2 with
      | false=>
        refine BC rfl ?_
        unfold VT at hQ
        rw [if_neg (fun ha=>by have:=List.all_eq_true.1 ha l[i] (List.getElem_mem hi); rw [hb] at this; cases this)] at hQ
        exact hQ
      | true=>
        have hok':∀ q (hq:q<l.length),q<i+1→(KV l[q].Val).2=true:=fun q hq hqi=>by
          by_cases e:q=i
          · subst e; exact hb
          · exact hok q hq (by omega)
        refine AN rfl (cF (FT (fun hz=>BB (by simp; omega) (hn _ ⟨?_,hok'⟩)) (fun hz=>hn _ ⟨?_,hok'⟩)))
        · rw [hst]; unfold pA; rw [if_pos hz]; rfl
        · rw [hst]; unfold pA; rw [if_neg (fun h=>h hz)]; simp
    · obtain ⟨rfl,hok⟩:=hm
      refine AC (fun h=>by omega) (fun _=>?_)
      rw [List.take_length]
      have hlk:=List.length_filterMap_le (pA r) l
      unfold VT at hQ
      rw [if_pos (List.all_eq_true.2 fun c hc=>by obtain ⟨q,hq,rfl⟩:=List.getElem_of_mem hc; exact hok q hq hq)] at hQ
      exact AbX (by omega) pB hQ
  unfold DC DM QA KE
  have e1:AH (rows - 1)=rows - 1:=AY (by omega) (by omega)
  have e2:AH (cols - 1)=cols - 1:=AY (by omega) (by omega)
  rw [e1,e2]
  refine EM l.length (by omega) (fun _=>True) trivial (fun i next hi _ hn=>?_) (fun next _=>?_)
  · have hc:=h.inn _ (List.getElem_mem hi)
    refine AC (fun _=>BK hi (AC (fun _=>CO (fun hb=>by have:=of_decide_eq_false hb; omega) (fun _=>AC (fun _=>?_) (fun h=>by omega))) (fun h=>by omega))) (fun h=>by omega)
    dsimp only
    rw [show (!decide ((l[i]).Col≤cols - 1))=false by simp; omega]
    exact AN rfl (hn trivial)
  · exact AC (fun h=>by omega) (fun _=>AN (by decide) hk)
def AcH (r:Int) (ts:List AD):Int×Int:=
  if ¬(1≤r∧r≤5) then (0,8) else match ts with
    | []=>(zS r,0)
    | t :: l=>if (KV (l.foldl (fun w u=>GG r w (PY u.Val)) (PY t.Val))).2 then ((KV (l.foldl (fun w u=>GG r w (PY u.Val)) (PY t.Val))).1,0) else (0,12)
theorem jH {r:Int}:∀ {l:List AD} {w:AP},(∀ t∈l,FR t.Val)→PB w→PB (l.foldl (fun w u=>GG r w (PY u.Val)) w)
  | [],_,_,h=>h
  | t :: l,w,hv,h=>jH (l:=l) (fun u hu=>hv u (List.mem_cons_of_mem _ hu)) (SY h (WA (hv t (by simp))))
theorem lB {r rows cols:Int} {T:List AD} {Q:Int×Int→Prop} (hT:Canon rows cols T) (hv:∀ t∈T,FR t.Val) (hQ:Q (AcH r T)):SQ r (BO rows cols T) Q:=by
  unfold SQ
  unfold AcH at hQ
  refine KG (CO (fun h=>?_) (fun h=>?_))
  · rwa [if_pos (of_decide_eq_false h)] at hQ
  have hr:=of_decide_eq_true h
  rw [if_neg (fun h=>h hr)] at hQ
  refine TB hT.sml (MB hT) hT ?_
  have hlen:=hT.len
  match T,hv,hQ,hlen with
  | [],_,hQ,_=>exact DA (fun _=>cF hQ) (fun h=>absurd rfl h)
  | t :: l,hv,hQ,hlen=>
    refine DA (fun h=>by simp at h; omega) (fun _=>AO (by omega) rfl (GF (hv t (by simp)) ⟨by omega,by simp; omega,by omega,?_⟩))
    have e:(((t :: l).take ((t :: l).length:Int).toNat).drop (Int.toNat 1))=l:=by simp
    simp only [e]
    rw [List.length_cons] at hlen
    refine AU (fun (w:AP) i=>(w.Hi,w.Lo,i)) 0 l.length (by omega) (fun i w=>w=(l.take i).foldl (fun w u=>GG r w (PY u.Val)) (PY t.Val)) (by omega) rfl (fun i w next _ hi hm hn=>?_) (fun w next hm=>?_) (s0:=PY t.Val)
    · dsimp only
      have hok:PB w:=by rw [hm]; exact jH (fun u hu=>hv u (List.mem_cons_of_mem _ (List.mem_of_mem_take hu))) (WA (hv t (by simp)))
      have hx:=hv _ (List.mem_cons_of_mem _ (List.getElem_mem hi))
      refine AC (fun _=>BK hi (GF hx (PT hok (WA hx) (hn _ ?_)))) (fun h=>by omega)
      rw [List.take_succ_eq_append_getElem hi,List.foldl_append,←hm]; rfl
    · dsimp only
      rw [List.take_length] at hm
      have hok:PB w:=by rw [hm]; exact jH (fun u hu=>hv u (List.mem_cons_of_mem _ hu)) (WA (hv t (by simp)))
      refine AC (fun h=>by omega) (fun _=>YF hok ?_)
      simp only [←hm] at hQ
      cases hb:(KV w).2 with
      | true=>rw [hb,if_pos rfl] at hQ; exact AN rfl hQ
      | false=>rw [hb,if_neg (by simp)] at hQ; exact BC rfl hQ
theorem TD {rows cols:Int} {T:List AD} (h:Canon rows cols T) {i j a:Int} (hi:0≤i):WU (cE T i) j=some a↔(⟨i,j,a⟩:AD)∈T:=by
  unfold cE
  rw [AeR (oZ h.srt i.toNat),List.mem_map]
  unfold KP
  constructor
  · rintro ⟨t,ht,he⟩
    obtain ⟨h1,h2⟩:=List.mem_filter.1 ht
    have h3:=of_decide_eq_true h2
    unfold WT at he
    obtain ⟨tr,tc,tv⟩:=t
    simp only [DS.mk.injEq] at he h3
    obtain ⟨rfl,rfl⟩:=he
    rw [show i=tr by omega]
    exact h1
  · intro ht
    exact ⟨_,List.mem_filter.2 ⟨ht,by simp; omega⟩,rfl⟩
theorem TE {r rows cols:Int} {A B:List AD} (h:Canon rows cols A) {i:Int} (hi:0≤i) (c:Int):MN r A B i c=XK r cols.toNat (WU (cE A i)) (vU B c):=by
  unfold MN
  refine AcA (oZ h.srt _) (fun x hx=>?_)
  obtain ⟨t,ht,rfl⟩:=List.mem_map.1 hx
  have:=h.inn t (List.mem_filter.1 ht).1
  unfold ZB at this
  unfold WT
  dsimp only
  omega
theorem XL {α β:Type} {f g:α→Option β}:∀ {l:List α},(∀ x∈l,f x=g x)→l.filterMap f=l.filterMap g
  | [],_=>rfl
  | x :: l,h=>by rw [List.filterMap_cons,List.filterMap_cons,h x (by simp),XL fun y hy=>h y (List.mem_cons_of_mem _ hy)]
end Go.Proofs.YtbohadngdkjljaaGreat
