import Derived.Test.YtbohadngdkjljaaGreatPushH
namespace Go.Proofs.YtbohadngdkjljaaGreat
open Go Go.Fw
set_option linter.unusedVariables false
set_option linter.unusedSimpArgs false
theorem AaB (a b:AQ):fK a b∨fK b a:=by unfold fK; omega
theorem AcJ {a b:AQ} (h:fK a b) (h':fK b a):a=b:=by unfold fK at *; exact PU (by omega) (by omega)
theorem AaC {a b c:AQ} (h:fK a b) (h':fK b c):fK a c:=by unfold fK at *; omega
def gD (a b:AQ):AQ:=if fK a b then a else b
theorem AaD (a b:AQ):gD a b=gD b a:=by
  unfold gD
  by_cases h:fK a b <;> by_cases h':fK b a
  · rw [if_pos h,if_pos h']; exact AcJ h h'
  · rw [if_pos h,if_neg h']
  · rw [if_neg h,if_pos h']
  · rcases AaB a b with e | e
    · exact absurd e h
    · exact absurd e h'
theorem wA (a b c:AQ):gD (gD a b) c=gD a (gD b c):=by
  unfold gD
  by_cases h1:fK a b <;> by_cases h2:fK b c <;> by_cases h3:fK a c <;> simp only [h1,h2,h3,if_true,if_false]
  · exact absurd (AaC h1 h2) h3
  · exfalso; unfold fK at *; omega
theorem AaE {r:Int} {a b:AQ} (ha:PE a) (hb:PE b):GG r a b=GG r b a:=by
  by_cases h:r=1∨r=3∨r=4
  · have e:∀ a b,GG r a b=gD a b:=fun a b=>by unfold GG gD; rw [if_pos h]
    rw [e,e]; exact AaD a b
  · by_cases h2:r=2
    · unfold GG
      rw [if_neg h,if_pos h2,if_neg h,if_pos h2]
      by_cases e1:a=⟨0,0⟩ <;> by_cases e2:b=⟨0,0⟩ <;> simp [e1,e2]
    · by_cases h5:r=5
      · subst h5
        rw [cC ha,cC hb,RA,RA,Int.add_comm]
      · unfold GG; rw [if_neg h,if_neg h2,if_neg h5,if_neg h,if_neg h2,if_neg h5]
theorem wC {r:Int} {a b c:AQ} (ha:PE a) (hb:PE b) (hc:PE c):GG r (GG r a b) c=GG r a (GG r b c):=by
  by_cases h:r=1∨r=3∨r=4
  · have e:∀ a b,GG r a b=gD a b:=fun a b=>by unfold GG gD; rw [if_pos h]
    simp only [e]; exact wA a b c
  · by_cases h2:r=2
    · have e:∀ a b,GG r a b=if a=⟨0,0⟩∧b=⟨0,0⟩ then ⟨0,0⟩ else ⟨0,1⟩:=fun a b=>by unfold GG; rw [if_neg h,if_pos h2]
      have n1:(⟨0,1⟩:AQ)≠⟨0,0⟩:=by decide
      simp only [e]
      by_cases e1:a=⟨0,0⟩ <;> by_cases e2:b=⟨0,0⟩ <;> by_cases e3:c=⟨0,0⟩ <;> simp [e1,e2,e3]
    · by_cases h5:r=5
      · subst h5
        rw [cC ha,cC hb,cC hc,RA,RA,RA,RA,Int.add_assoc]
      · unfold GG
        simp only [if_neg h,if_neg h2,if_neg h5]
def okO (o:Option AQ):Prop:=∀ w,o=some w→PE w
theorem AcK {r:Int} {a b:Option AQ} (ha:okO a) (hb:okO b):gX r a b=gX r b a:=by
  cases a with
  | none=>cases b <;> rfl
  | some x=>cases b with
    | none=>rfl
    | some y=>simp only [gX]; rw [AaE (ha x rfl) (hb y rfl)]
theorem VR {r:Int} {a b c:Option AQ} (ha:okO a) (hb:okO b) (hc:okO c):gX r (gX r a b) c=gX r a (gX r b c):=by
  cases a with
  | none=>cases b <;> rfl
  | some x=>cases b with
    | none=>cases c <;> rfl
    | some y=>cases c with
      | none=>rfl
      | some z=>simp only [gX]; rw [wC (ha x rfl) (hb y rfl) (hc z rfl)]
theorem dV (r:Int) (n:Nat) (A B:Int→Option Int):XM r (n+1) A B=fO r A B (XM r n A B) n:=by
  unfold XM; rw [List.range_succ,List.foldl_append]; rfl
theorem sN (r:Int) (k:Nat) (A B:Int→Option Int):∀ m:Nat,XM r (k+m) A B=gX r (XM r k A B) (XM r m (fun j=>A (j+k)) (fun j=>B (j+k)))
  | 0=>by rw [Nat.add_zero,show XM r 0 (fun j=>A (j+k)) (fun j=>B (j+k))=none from rfl,NL]
  | m+1=>by
    rw [←Nat.add_assoc,dV,dV,sN r k A B m]
    have ho:=sM r m (fun j=>A (j+k)) (fun j=>B (j+k))
    generalize XM r m (fun j=>A (j+k)) (fun j=>B (j+k))=o at ho ⊢
    unfold fO
    rw [show (((k+m:Nat):Int))=(m:Int)+k by omega]
    simp only
    cases hA:A ((m:Int)+k) with
    | none=>rfl
    | some a=>cases hB:B ((m:Int)+k) with
      | none=>rfl
      | some x=>
        have hm:okO (some (jK r a x)):=fun w hw=>by
          have:=Option.some.inj hw
          subst this; exact PW _ _ _
        exact VR (sM r k A B) ho hm
theorem ZW {r:Int} {n:Nat} {A A' B B':Int→Option Int} (hA:∀ j:Nat,j<n→A j=A' j) (hB:∀ j:Nat,j<n→B j=B' j):XM r n A B=XM r n A' B':=by
  unfold XM
  refine WI fun acc k hk=>?_
  have hk:=List.mem_range.1 hk
  unfold fO
  rw [hA k hk,hB k hk]
theorem AeV {l:List DU} (h:IncI l) {i a:Int}:WW l i=some a↔(⟨i,a⟩:DU)∈l:=⟨yR,fun hm=>yS h hm⟩
theorem AeW {x y:Option Int} (h:∀ a,x=some a↔y=some a):x=y:=by
  cases x with
  | none=>cases y with
    | none=>rfl
    | some b=>have:=(h b).2 rfl; cases this
  | some a=>exact ((h a).1 rfl).symm
def wD (B:List AD) (c:Int) (k:Int):Option Int:=WW (cF B k) c
def MM (r:Int) (A B:List AD) (i c:Int):Option AQ:=(cF A i).foldl (VQ r (wD B c)) none
def HV (r:Int) (A B:List AD) (t:AD):Option AK:=(MM r A B t.Row t.Col).map fun w=>⟨t.Row,t.Col,w⟩
def FC (r:Int) (A B M:List AD):List AK:=M.filterMap (HV r A B)
theorem WJ {rows cols:Int} {ts:List AD} {i:Nat} {Q:List Int×List Int→Prop} (h:Canon rows cols ts) (hi:(i:Int)<rows) (hQ:Q ((KQ ts i).map (·.Col),(KQ ts i).map (·.Val))):RO (BO rows cols ts) i Q:=by
  unfold RO
  have hr:=h.r1
  obtain ⟨lo,hi',s⟩:=h.seg i
  have e1:AH ((i:Int)+1)=(i+1:Nat):=by rw [AY (by omega) (by omega)]; omega
  rw [e1]
  refine YI (by omega) (YI (by omega) ?_)
  rw [s.lo,s.hi]
  have h1:=s.le; have h2:=s.len
  have hc:(BO rows cols ts).Col.length=ts.length:=by simp [BO]
  have hv:(BO rows cols ts).Val.length=ts.length:=by simp [BO]
  refine ⟨by omega,by omega,by omega,by omega,by omega,by omega,?_⟩
  simp only [Int.toNat_natCast,BO,←List.map_take,←List.map_drop,s.eq]
  exact hQ
theorem pC {l:List Rows} {Q:List Rows→Prop} (hl:l.length≤100) (h:∀ a∈l,small a∧WF a) (hQ:Q l):YC l Q:=by
  unfold YC
  refine AV (fun (s:List Rows) i=>(s,i)) 0 l.length (by omega) (fun i s=>s=l.take i) (by omega) rfl (fun i s next _ hi hm hn=>?_) (fun s next hm=>?_)
  · subst hm
    have hx:=h _ (List.getElem_mem hi)
    refine AB (fun _=>BI hi (bY hx.1 ?_)) (fun h=>by omega)
    rw [decide_eq_true hx.2]
    refine AN rfl (BE (by simp; omega) (hn _ ?_))
    rw [List.take_succ_eq_append_getElem hi]
  · subst hm
    rw [List.take_length]
    exact AB (fun h=>by omega) (fun _=>hQ)
theorem pD {ts:List AD} (h:Srt ts) (i:Nat):IncI ((KQ ts i).map WV):=by
  unfold IncI KQ
  rw [List.pairwise_map]
  refine List.Pairwise.imp_of_mem ?_ (List.Pairwise.filter _ h)
  intro a b ha hb hab
  have h1:=of_decide_eq_true (List.mem_filter.1 ha).2
  have h2:=of_decide_eq_true (List.mem_filter.1 hb).2
  unfold TT key at hab
  simp only [WV]
  simp only at hab
  omega
def AcL (m:List (Int×AQ)) (asked:Int→Bool) (f:Int→Option AQ):Prop:=(∀ c,asked c=true→BM c m=f c)∧∀ c w,BM c m=some w→PE w
theorem AgT {l:List (Int×Bool)} {k:Int} {C:Bool→Prop} (h:C ((BM k l).getD false)):zW l k false C:=KL h
theorem sO {r ra ca rb cb:Int} {A B:List AD} {asked:List (Int×Bool)} {i:Nat} {Q:List (Int×AQ)→Prop} (hA:Canon ra ca A) (hB:Canon rb cb B) (hab:ca≤rb) (hi:(i:Int)<ra) (hr:1≤r∧r≤5) (hvA:∀ t∈A,FS t.Val) (hvB:∀ t∈B,FS t.Val)
    (hQ:∀ m,AcL m (fun c=>(BM c asked).getD false) (MM r A B i)→Q m):QW asked r (BO ra ca A) (BO rb cb B) i Q:=by
  unfold QW
  refine WJ hA hi ?_
  have hsl:=SZ A i
  have hAl:=hA.len
  have hBl:=hB.len
  have hrow:∀ t∈KQ A i,(0≤t.Col∧t.Col<ca)∧FS t.Val:=fun t ht=>by
    have hm:=(List.mem_filter.1 ht).1
    have:=hA.inn t hm
    unfold ZC at this
    exact ⟨⟨this.2.2.1,this.2.2.2⟩,hvA t hm⟩
  unfold MM at hQ
  rw [show cF A (i:Int)=(KQ A i).map WV from rfl] at hQ
  generalize KQ A i=xs at hQ hsl hrow
  refine AV (fun (s:List (Int×AQ)) k=>(s,k)) 0 xs.length (by omega) (fun k m=>AcL m (fun c=>(BM c asked).getD false) fun c=>((xs.take k).map WV).foldl (VQ r (wD B c)) none) (by omega) ⟨fun c _=>rfl,fun c w h=>by simp [BM] at h⟩ (fun k m next _ hk hm hn=>?_) (fun m next hm=>?_)
  · dsimp only
    have hx:=hrow _ (List.getElem_mem hk)
    refine AB (fun _=>AO (by omega) (x:=xs[k].Col) (by simp [hk]) ?_) (fun h=>by simp at h; omega)
    obtain ⟨c0,hc0⟩:∃ c0:Nat,xs[k].Col=(c0:Int):=⟨xs[k].Col.toNat,by omega⟩
    rw [hc0]
    refine WJ hB (by omega) ?_
    have hinc:=pD hB.srt c0
    have hsl2:=SZ B c0
    have hrow2:∀ t∈KQ B c0,FS t.Val:=fun t ht=>hvB t (List.mem_filter.1 ht).1
    have hbat:∀ c,wD B c xs[k].Col=WW ((KQ B c0).map WV) c:=fun c=>by unfold wD cF; rw [hc0]; rfl
    generalize KQ B c0=ys at hinc hsl2 hrow2 hbat
    -- how it is behind so many of the row's items
    let F:Nat→Int→Option AQ:=fun j c=>match WW ((ys.take j).map WV) c with
      | some b=>gX r (((xs.take k).map WV).foldl (VQ r (wD B c)) none) (some (jK r xs[k].Val b))
      | none=>((xs.take k).map WV).foldl (VQ r (wD B c)) none
    have hF0:F 0=fun c=>((xs.take k).map WV).foldl (VQ r (wD B c)) none:=rfl
    refine AV (fun (s:List (Int×AQ)) j=>(s,j)) 0 ys.length (by omega) (fun j m=>AcL m (fun c=>(BM c asked).getD false) (F j)) (by omega) (by rw [hF0]; exact hm) (fun j m' nx _ hj hm' hnx=>?_) (fun m' nx hm'=>?_)
    · dsimp only
      have htk:(ys.take (j+1)).map WV=(ys.take j).map WV++[WV ys[j]]:=HU hj
      have hFs:∀ c,F (j+1) c=if c=ys[j].Col then F (j+1) c else F j c:=fun c=>by
        by_cases e:c=ys[j].Col
        · rw [if_pos e]
        · rw [if_neg e]
          have:WW ((ys.take (j+1)).map WV) c=WW ((ys.take j).map WV) c:=by
            rw [htk,TB]
            have h0:WW [WV ys[j]] c=none:=cD fun s hs=>by simp only [List.mem_singleton] at hs; subst hs; exact fun h=>e h.symm
            rw [h0]; split <;> simp_all
          show (match WW ((ys.take (j+1)).map WV) c with | some b=>_ | none=>_)=_
          rw [this]
      have hnew:WW ((ys.take j).map WV) ys[j].Col=none:=cD fun s hs=>by
        obtain ⟨t,ht,rfl⟩:=List.mem_map.1 hs
        obtain ⟨q,hq,rfl⟩:=List.getElem_of_mem ht
        rw [List.length_take] at hq
        rw [List.getElem_take]
        have hlen:(ys.map WV).length=ys.length:=by simp
        have:=hinc.at (i:=q) (j:=j) (by omega) (by omega)
        simp only [List.getElem_map] at this
        intro h
        simp only [WV] at this h
        omega
      have hold:F j ys[j].Col=((xs.take k).map WV).foldl (VQ r (wD B ys[j].Col)) none:=by
        show (match WW ((ys.take j).map WV) ys[j].Col with | some b=>_ | none=>_)=_
        rw [hnew]
      have hhit:F (j+1) ys[j].Col=gX r (F j ys[j].Col) (some (jK r xs[k].Val ys[j].Val)):=by
        rw [hold]
        have:WW ((ys.take (j+1)).map WV) ys[j].Col=some ys[j].Val:=by rw [htk,TB,hnew]; simp [PX,WV]
        show (match WW ((ys.take (j+1)).map WV) ys[j].Col with | some b=>_ | none=>_)=_
        rw [this]
      have hy:=hrow2 _ (List.getElem_mem hj)
      refine AB (fun _=>AO (by omega) (x:=ys[j].Col) (by simp [hj]) (AgT ?_)) (fun h=>by simp at h; omega)
      cases ha:(BM ys[j].Col asked).getD false with
      | false=>
        refine AZ rfl (hnx _ ⟨fun c hc=>?_,hm'.2⟩)
        rw [hFs,if_neg (fun e=>by subst e; simp only at hc; rw [ha] at hc; cases hc)]
        exact hm'.1 c hc
      | true=>
        have hcur:=hm'.1 ys[j].Col ha
        refine AN rfl (AO (by omega) (x:=xs[k].Val) (by simp [hk]) (AO (by omega) (x:=ys[j].Val) (by simp [hj]) (rZ hx.2 hy (W2 (fun w hw=>?_) (fun hw=>?_)))))
        · refine AZ rfl (PV (hm'.2 _ _ hw) (PW _ _ _) (hnx _ ⟨fun c hc=>?_,fun c u hu=>?_⟩))
          · by_cases e:c=ys[j].Col
            · subst e; rw [BN,hhit,←hcur,hw]; rfl
            · rw [BF e,hFs,if_neg e]; exact hm'.1 c hc
          · by_cases e:c=ys[j].Col
            · subst e; rw [BN] at hu; cases hu; exact SX (hm'.2 _ _ hw) (PW _ _ _)
            · rw [BF e] at hu; exact hm'.2 c u hu
        · refine AN rfl (hnx _ ⟨fun c hc=>?_,fun c u hu=>?_⟩)
          · by_cases e:c=ys[j].Col
            · subst e; rw [BN,hhit,←hcur,hw]; rfl
            · rw [BF e,hFs,if_neg e]; exact hm'.1 c hc
          · by_cases e:c=ys[j].Col
            · subst e; rw [BN] at hu; cases hu; exact PW _ _ _
            · rw [BF e] at hu; exact hm'.2 c u hu
    · dsimp only
      refine AB (fun h=>by simp at h) (fun _=>hn _ ⟨fun c hc=>?_,hm'.2⟩)
      rw [hm'.1 c hc,HU hk]
      show F ys.length c=List.foldl (VQ r (wD B c)) none ((xs.take k).map WV++[WV xs[k]])
      rw [List.foldl_append]
      show (match WW ((ys.take ys.length).map WV) c with | some b=>_ | none=>_)=VQ r (wD B c) _ (WV xs[k])
      rw [List.take_length,←hbat c]
      unfold VQ
      simp only [WV]
      all_goals (split <;> simp_all)
  · dsimp only
    rw [List.take_length] at hm
    exact AB (fun h=>by simp at h) (fun _=>hQ m hm)
def wE (r ra ca rb cb rm cm:Int) (A B M:List AD):List AK×Int:=
  if ¬(1≤r∧r≤5) then ([],8) else if ca≠rb∨rm≠ra∨cm≠cb then ([],4) else (FC r A B M,0)
theorem AaF (r:Int) (A B M:List AD):(FC r A B M).length≤M.length:=List.length_filterMap_le _ _
theorem AcM {T:List AD} {i lo hi:Nat} (s:Seg T i lo hi):T.take hi=T.take lo++KQ T i:=by
  have h:=List.take_append_drop lo (T.take hi)
  rw [s.eq,List.take_take,Nat.min_eq_left s.le] at h
  exact h.symm
theorem lF {r ra ca rb cb rm cm:Int} {A B M:List AD} {Q:List AK×Int→Prop} (hA:Canon ra ca A) (hB:Canon rb cb B) (hM:Canon rm cm M) (hvA:∀ t∈A,FS t.Val) (hvB:∀ t∈B,FS t.Val)
    (hQ:Q (wE r ra ca rb cb rm cm A B M)):SN r (BO ra ca A) (BO rb cb B) (BO rm cm M) Q:=by
  unfold SN
  refine pC (by simp) (fun a ha=>?_) (AO (by omega) rfl (AO (by omega) rfl (AO (by omega) rfl (KG ?_))))
  · simp only [List.mem_cons,List.not_mem_nil,or_false] at ha
    rcases ha with rfl | rfl | rfl
    · exact ⟨hA.sml,hA.right⟩
    · exact ⟨hB.sml,hB.right⟩
    · exact ⟨hM.sml,hM.right⟩
  unfold wE at hQ
  refine CQ (fun h=>?_) (fun h=>?_)
  · rwa [if_pos (of_decide_eq_false h)] at hQ
  have hr:=of_decide_eq_true h
  rw [if_neg (fun h=>h hr)] at hQ
  have hbad (hb:ca≠rb∨rm≠ra∨cm≠cb):Q ([],4):=by rwa [if_pos hb] at hQ
  refine FJ (fun h=>hbad (.inl h)) (fun h1=>FJ (fun h=>hbad (.inr (.inl h))) (fun h2=>FJ (fun h=>hbad (.inr (.inr h))) (fun h3=>?_)))
  have h1:ca=rb:=h1
  have h2:rm=ra:=h2
  have h3:cm=cb:=h3
  rw [if_neg (by omega)] at hQ
  have hrm:=hM.r0; have hrm1:=hM.r1; have hMl:=hM.len
  obtain ⟨n,hn⟩:∃ n:Nat,rm=(n:Int):=⟨rm.toNat,by omega⟩
  have hR:(BO rm cm M).Rows=(n:Int):=hn
  rw [hR]
  refine AV (fun (s:List AK) i=>(s,i)) 0 n (by omega) (fun i s=>s=(M.take (GL M i).toNat).filterMap (HV r A B)) (by omega) (by rw [ZU (fun t ht=>(hM.inn t ht).1)]; rfl) (fun i s next _ hi hm hnx=>?_) (fun s next hm=>?_)
  · subst hm
    dsimp only
    obtain ⟨lo,hi',sg⟩:=hM.seg i
    have hlo:=sg.lo; have hhi:=sg.hi; have hle:=sg.le; have hlen:=sg.len
    have htk:=AcM sg
    rw [show (GL M i).toNat=lo by omega]
    have hnx':=hnx ((M.take lo).filterMap (HV r A B)++(KQ M i).filterMap (HV r A B)) (by rw [show (GL M (i+1)).toNat=hi' by omega,htk,List.filterMap_append])
    clear hnx
    have hrow:∀ t∈KQ M i,t.Row=(i:Int):=fun t ht=>of_decide_eq_true (List.mem_filter.1 ht).2
    have hout:((M.take lo).filterMap (HV r A B)).length≤65536:=by
      have:=List.length_filterMap_le (HV r A B) (M.take lo)
      rw [List.length_take] at this; omega
    have hsl:=SZ M i
    refine AB (fun _=>WJ hM (by omega) ?_) (fun h=>by omega)
    generalize (M.take lo).filterMap (HV r A B)=out at hnx' hout ⊢
    generalize KQ M i=xs at hnx' hrow hsl ⊢
    refine AV (fun (s:List (Int×Bool)) k=>(s,k)) 0 xs.length (by omega) (fun k m=>∀ q (hq:q<xs.length),q<k→BM xs[q].Col m=some true) (by omega) (fun q hq h=>by omega) (fun k m nx _ hk hm hnk=>?_) (fun m nx hm=>?_)
    · dsimp only
      refine AB (fun _=>AO (by omega) (x:=xs[k].Col) (by simp [hk]) (hnk _ fun q hq hqk=>?_)) (fun h=>by simp at h; omega)
      by_cases e:xs[q].Col=xs[k].Col
      · rw [e,BN]
      · rw [BF e]
        refine hm q hq ?_
        by_cases e2:q=k
        · subst e2; exact absurd rfl e
        · omega
    · dsimp only
      refine AB (fun h=>by simp at h) (fun _=>?_)
      refine sO hA hB (by omega) (by omega) hr hvA hvB fun sums hsums=>?_
      refine AV (fun (s:List AK) k=>(s,k)) 0 xs.length (by omega) (fun k s=>s=out++(xs.take k).filterMap (HV r A B)) (by omega) (by simp) (fun k s ny _ hk hm2 hny=>?_) (fun s ny hm2=>?_)
      · subst hm2
        dsimp only
        have hlk:=List.length_filterMap_le (HV r A B) (xs.take k)
        rw [List.length_take] at hlk
        have hask:=hm k hk hk
        have hcur:=hsums.1 xs[k].Col (by simp only [hask]; rfl)
        have hcell:HV r A B xs[k]=(MM r A B i xs[k].Col).map fun w=>⟨(i:Int),xs[k].Col,w⟩:=by
          unfold HV; rw [hrow _ (List.getElem_mem hk)]
        have hstep:(xs.take (k+1)).filterMap (HV r A B)=(xs.take k).filterMap (HV r A B)++(HV r A B xs[k]).toList:=by
          rw [List.take_succ_eq_append_getElem hk,List.filterMap_append]
          congr 1
        refine AB (fun _=>AO (by omega) (x:=xs[k].Col) (by simp [hk]) (W2 (fun w hw=>?_) (fun hw=>?_))) (fun h=>by simp at h; omega)
        · refine AZ rfl (BE (by simp; omega) (hny _ ?_))
          rw [hstep,hcell,←hcur,hw,List.append_assoc]; rfl
        · refine AN rfl (hny _ ?_)
          rw [hstep,hcell,←hcur,hw]; simp
      · subst hm2
        dsimp only
        rw [List.take_length]
        exact AB (fun h=>by simp at h) (fun _=>hnx')
  · subst hm
    dsimp only
    refine AB (fun h=>by omega) (fun _=>?_)
    have:=dU hM
    rw [show rm.toNat=n by omega] at this
    rw [this,Int.toNat_natCast,List.take_length]
    exact hQ
def gY (a b:AK):Prop:=TT (a.Row,a.Col) (b.Row,b.Col)
structure yT (rows cols:Int) (l:List AK):Prop where
  inc:l.Pairwise gY
  inn:∀ c∈l,(0≤c.Row∧c.Row<rows)∧(0≤c.Col∧c.Col<cols)
  ok:∀ c∈l,PE c.Val
  len:l.length≤65536
theorem gZ {r ra ca rb cb rm cm:Int} {A B M:List AD} (hM:Canon rm cm M):yT rm cm (FC r A B M):=by
  have hmem:∀ c∈FC r A B M,∃ t∈M,c.Row=t.Row∧c.Col=t.Col∧PE c.Val:=fun c hc=>by
    obtain ⟨t,ht,he⟩:=List.mem_filterMap.1 hc
    unfold HV at he
    cases hw:MM r A B t.Row t.Col with
    | none=>rw [hw] at he; cases he
    | some w=>rw [hw] at he; cases he; exact ⟨t,ht,rfl,rfl,mQ r _ _ none (fun _ h=>by cases h) w hw⟩
  refine ⟨?_,fun c hc=>?_,fun c hc=>?_,Nat.le_trans (AaF r A B M) hM.len⟩
  · refine List.Pairwise.filterMap _ (fun a b hab c hc d hd=>?_) hM.srt
    unfold HV at hc hd
    cases hw:MM r A B a.Row a.Col with
    | none=>rw [hw] at hc; cases hc
    | some w=>
      cases hu:MM r A B b.Row b.Col with
      | none=>rw [hu] at hd; cases hd
      | some u=>rw [hw] at hc; rw [hu] at hd; cases hc; cases hd; exact hab
  · obtain ⟨t,ht,h1,h2,_⟩:=hmem c hc
    have:=hM.inn t ht
    unfold ZC at this
    omega
  · obtain ⟨t,_,_,_,h⟩:=hmem c hc; exact h
theorem UM (x y:AK):uV (OT x.Row y.Row) (OT x.Col y.Col)<0↔gY x y:=by
  unfold gY TT uV OT
  simp only
  split <;> split <;> (try split) <;> omega
theorem UZ {x y:AK} {Q:Int→Prop} (h:Q (uV (OT x.Row y.Row) (OT x.Col y.Col))):SO x y Q:=by
  unfold SO
  exact FO (FO (fJ h))
theorem lG {l:List AK} {Q:Bool→Prop} (hl:l.length≤1000000) (h:l.Pairwise gY) (hQ:Q true):KD l Q:=by
  unfold KD
  refine DL l.length (by omega) (fun _=>True) trivial (fun i next hi _ hn=>?_) (fun next _=>?_)
  · refine AB (fun _=>AB (fun hp=>?_) (fun _=>hn trivial)) (fun h=>by omega)
    have e:AH ((i:Int) - 1)=((i - 1:Nat):Int):=by rw [AY (by omega) (by omega)]; omega
    rw [e]
    refine BI (by omega) (BI hi (UZ (AB (fun h0=>?_) (fun _=>hn trivial))))
    have h1:=(UM l[i - 1] l[i]).2 (List.pairwise_iff_getElem.1 h (i - 1) i (by omega) hi (by omega))
    omega
  · exact AB (fun h=>by omega) (fun _=>hQ)
def pE (r:Int) (c:AK):Option AD:=if (KW c.Val).1≠zS r then some ⟨c.Row,c.Col,(KW c.Val).1⟩ else none
def VS (r rows cols:Int) (l:List AK):Rows×Int:=if l.all (fun c=>(KW c.Val).2) then ofS r rows cols (l.filterMap (pE r)) else (zR,12)
theorem AcN (a:AQ):FS (KW a).1:=by
  unfold KW FS
  split
  · rw [IZ]; omega
  · simp
theorem pF {r:Int} {l:List AK}:∀ t∈l.filterMap (pE r),FS t.Val:=fun t ht=>by
  obtain ⟨c,_,he⟩:=List.mem_filterMap.1 ht
  unfold pE at he
  split at he
  · cases he; exact AcN _
  · cases he
theorem AaG {r:Int} {l:List AK} {i:Nat} (hi:i<l.length):(l.take (i+1)).filterMap (pE r)=(l.take i).filterMap (pE r)++(pE r l[i]).toList:=by
  rw [List.take_succ_eq_append_getElem hi,List.filterMap_append]
  congr 1
theorem pG {r rows cols:Int} {l:List AK} {Q:Rows×Int→Prop} (hr:1≤r∧r≤5) (h0:(0≤rows∧rows≤4096)∧(0≤cols∧cols≤4096)) (h:yT rows cols l) (hQ:Q (VS r rows cols l)):YD r rows cols l Q:=by
  unfold YD FY
  have hl:=h.len
  refine KG ?_
  rw [decide_eq_true hr]
  refine AN rfl ?_
  unfold KE
  refine AB (fun _=>CQ (fun hn=>by have:=of_decide_eq_false hn; omega) (fun _=>AB (fun _=>?_) (fun h=>by omega))) (fun h=>by omega)
  dsimp only
  rw [show (!decide (cols≤4096))=false by simp; omega]
  refine AN rfl ?_
  have hk:KD l fun r155=>AP (!r155) (Q (zR,6)) (AP (decide (65536<(l.length:Int))) (Q (zR,5)) (BB (fun (s:(List AD)×Int) (next454:((List AD)×Int)→Prop)=>match s with | (s448,s452)=>AP (decide (s452<(l.length:Int))) (BD l s452 fun x472=>IE r x472.Val fun r486=>AP (!r486.2) (Q (zR,12)) (RP r fun r496=>AP (r486.1 != r496) (HI 24 s448 ([({ Row:=x472.Row,Col:=x472.Col,Val:=r486.1 }:AD)]) fun _=>next454 ((s448++([({ Row:=x472.Row,Col:=x472.Col,Val:=r486.1 }:AD)])),AH (s452+1))) (next454 (s448,AH (s452+1))))) (SM r rows cols s448 fun r512=>Q (r512.1,r512.2))) (([]:List AD),0))):=by
    refine lG (by omega) h.inc (AN rfl (AB (fun h=>by omega) (fun _=>?_)))
    refine AV (fun (s:List AD) i=>(s,i)) 0 l.length (by omega) (fun i s=>s=(l.take i).filterMap (pE r)∧∀ q (hq:q<l.length),q<i→(KW l[q].Val).2=true) (by omega) ⟨rfl,fun q hq h=>by omega⟩ (fun i s next _ hi hm hn=>?_) (fun s next hm=>?_)
    · obtain ⟨rfl,hok⟩:=hm
      have hst:=AaG (r:=r) hi
      have hlk:=List.length_filterMap_le (pE r) (l.take i)
      rw [List.length_take] at hlk
      refine AB (fun _=>BI hi (YH (h.ok _ (List.getElem_mem hi)) ?_)) (fun h=>by omega)
      cases hb:(KW l[i].Val).2 with
      | false=>
        refine AZ rfl ?_
        unfold VS at hQ
        rw [if_neg (fun ha=>by have:=List.all_eq_true.1 ha l[i] (List.getElem_mem hi); rw [hb] at this; cases this)] at hQ
        exact hQ
      | true=>
        have hok':∀ q (hq:q<l.length),q<i+1→(KW l[q].Val).2=true:=fun q hq hqi=>by
          by_cases e:q=i
          · subst e; exact hb
          · exact hok q hq (by omega)
        refine AN rfl (cG (FJ (fun hz=>BE (by simp; omega) (hn _ ⟨?_,hok'⟩)) (fun hz=>hn _ ⟨?_,hok'⟩)))
        · rw [hst]; unfold pE; rw [if_pos hz]; rfl
        · rw [hst]; unfold pE; rw [if_neg (fun h=>h hz)]; simp
    · obtain ⟨rfl,hok⟩:=hm
      refine AB (fun h=>by omega) (fun _=>?_)
      rw [List.take_length]
      have hlk:=List.length_filterMap_le (pE r) l
      unfold VS at hQ
      rw [if_pos (List.all_eq_true.2 fun c hc=>by obtain ⟨q,hq,rfl⟩:=List.getElem_of_mem hc; exact hok q hq hq)] at hQ
      exact Ac4 (by omega) pF hQ
  unfold DD DO QC KE
  have e1:AH (rows - 1)=rows - 1:=AY (by omega) (by omega)
  have e2:AH (cols - 1)=cols - 1:=AY (by omega) (by omega)
  rw [e1,e2]
  refine DL l.length (by omega) (fun _=>True) trivial (fun i next hi _ hn=>?_) (fun next _=>?_)
  · have hc:=h.inn _ (List.getElem_mem hi)
    refine AB (fun _=>BI hi (AB (fun _=>CQ (fun hb=>by have:=of_decide_eq_false hb; omega) (fun _=>AB (fun _=>?_) (fun h=>by omega))) (fun h=>by omega))) (fun h=>by omega)
    dsimp only
    rw [show (!decide ((l[i]).Col≤cols - 1))=false by simp; omega]
    exact AN rfl (hn trivial)
  · exact AB (fun h=>by omega) (fun _=>AN (by decide) hk)
def AcO (r:Int) (ts:List AD):Int×Int:=
  if ¬(1≤r∧r≤5) then (0,8) else match ts with
    | []=>(zS r,0)
    | t :: l=>if (KW (l.foldl (fun w u=>GG r w (QA u.Val)) (QA t.Val))).2 then ((KW (l.foldl (fun w u=>GG r w (QA u.Val)) (QA t.Val))).1,0) else (0,12)
theorem jO {r:Int}:∀ {l:List AD} {w:AQ},(∀ t∈l,FS t.Val)→PE w→PE (l.foldl (fun w u=>GG r w (QA u.Val)) w)
  | [],_,_,h=>h
  | t :: l,w,hv,h=>jO (l:=l) (fun u hu=>hv u (List.mem_cons_of_mem _ hu)) (SX h (WC (hv t (by simp))))
theorem lH {r rows cols:Int} {T:List AD} {Q:Int×Int→Prop} (hT:Canon rows cols T) (hv:∀ t∈T,FS t.Val) (hQ:Q (AcO r T)):SR r (BO rows cols T) Q:=by
  unfold SR
  unfold AcO at hQ
  refine KG (CQ (fun h=>?_) (fun h=>?_))
  · rwa [if_pos (of_decide_eq_false h)] at hQ
  have hr:=of_decide_eq_true h
  rw [if_neg (fun h=>h hr)] at hQ
  refine TA hT.sml (MB hT) hT ?_
  have hlen:=hT.len
  match T,hv,hQ,hlen with
  | [],_,hQ,_=>exact CO (fun _=>cG hQ) (fun h=>absurd rfl h)
  | t :: l,hv,hQ,hlen=>
    refine CO (fun h=>by simp at h; omega) (fun _=>AO (by omega) rfl (GF (hv t (by simp)) ⟨by omega,by simp; omega,by omega,?_⟩))
    have e:(((t :: l).take ((t :: l).length:Int).toNat).drop (Int.toNat 1))=l:=by simp
    simp only [e]
    rw [List.length_cons] at hlen
    refine AV (fun (w:AQ) i=>(w.Hi,w.Lo,i)) 0 l.length (by omega) (fun i w=>w=(l.take i).foldl (fun w u=>GG r w (QA u.Val)) (QA t.Val)) (by omega) rfl (fun i w next _ hi hm hn=>?_) (fun w next hm=>?_) (s0:=QA t.Val)
    · dsimp only
      have hok:PE w:=by rw [hm]; exact jO (fun u hu=>hv u (List.mem_cons_of_mem _ (List.mem_of_mem_take hu))) (WC (hv t (by simp)))
      have hx:=hv _ (List.mem_cons_of_mem _ (List.getElem_mem hi))
      refine AB (fun _=>BI hi (GF hx (PV hok (WC hx) (hn _ ?_)))) (fun h=>by omega)
      rw [List.take_succ_eq_append_getElem hi,List.foldl_append,←hm]; rfl
    · dsimp only
      rw [List.take_length] at hm
      have hok:PE w:=by rw [hm]; exact jO (fun u hu=>hv u (List.mem_cons_of_mem _ hu)) (WC (hv t (by simp)))
      refine AB (fun h=>by omega) (fun _=>YH hok ?_)
      simp only [←hm] at hQ
      cases hb:(KW w).2 with
      | true=>rw [hb,if_pos rfl] at hQ; exact AN rfl hQ
      | false=>rw [hb,if_neg (by simp)] at hQ; exact AZ rfl hQ
theorem TC {rows cols:Int} {T:List AD} (h:Canon rows cols T) {i j a:Int} (hi:0≤i):WW (cF T i) j=some a↔(⟨i,j,a⟩:AD)∈T:=by
  unfold cF
  rw [AeV (pD h.srt i.toNat),List.mem_map]
  unfold KQ
  constructor
  · rintro ⟨t,ht,he⟩
    obtain ⟨h1,h2⟩:=List.mem_filter.1 ht
    have h3:=of_decide_eq_true h2
    unfold WV at he
    obtain ⟨tr,tc,tv⟩:=t
    simp only [DU.mk.injEq] at he h3
    obtain ⟨rfl,rfl⟩:=he
    rw [show i=tr by omega]
    exact h1
  · intro ht
    exact ⟨_,List.mem_filter.2 ⟨ht,by simp; omega⟩,rfl⟩
theorem TD {r rows cols:Int} {A B:List AD} (h:Canon rows cols A) {i:Int} (hi:0≤i) (c:Int):MM r A B i c=XM r cols.toNat (WW (cF A i)) (wD B c):=by
  unfold MM
  refine AcH (pD h.srt _) (fun x hx=>?_)
  obtain ⟨t,ht,rfl⟩:=List.mem_map.1 hx
  have:=h.inn t (List.mem_filter.1 ht).1
  unfold ZC at this
  unfold WV
  dsimp only
  omega
theorem XN {α β:Type} {f g:α→Option β}:∀ {l:List α},(∀ x∈l,f x=g x)→l.filterMap f=l.filterMap g
  | [],_=>rfl
  | x :: l,h=>by rw [List.filterMap_cons,List.filterMap_cons,h x (by simp),XN fun y hy=>h y (List.mem_cons_of_mem _ hy)]
end Go.Proofs.YtbohadngdkjljaaGreat
