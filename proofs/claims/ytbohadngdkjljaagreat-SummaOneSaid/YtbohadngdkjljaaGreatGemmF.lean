import Derived.Test.YtbohadngdkjljaaGreatPushJ
namespace Go.Proofs.YtbohadngdkjljaaGreat
open Go Go.Fw
set_option linter.unusedVariables false
set_option linter.unusedSimpArgs false
def jZ (B:List AC) (c:Int) (k:Int):Option Int:=YZ (fP B k) c
def MV (r:Int) (A B:List AC) (i c:Int):Option AN:=(fP A i).foldl (MU r (jZ B c)) none
def HF (r:Int) (A B:List AC) (t:AC):Option AK:=(MV r A B t.Row t.Col).map fun w=>⟨t.Row,t.Col,w⟩
def GO (r:Int) (A B M:List AC):List AK:=M.filterMap (HF r A B)
theorem WI {rows cols:Int} {ts:List AC} {i:Nat} {Q:List Int×List Int→Prop} (h:Canon rows cols ts) (hi:(i:Int)<rows) (hQ:Q ((KL ts i).map (·.Col),(KL ts i).map (·.Val))):RK (AZ rows cols ts) i Q:=by
  unfold RK
  have hr:=h.r1
  obtain ⟨lo,hi',s⟩:=h.seg i
  have e1:AJ ((i:Int)+1)=(i+1:Nat):=by rw [AX (by omega) (by omega)]; omega
  rw [e1]
  refine GC (by omega) (GC (by omega) ?_)
  rw [s.lo,s.hi]
  have h1:=s.le; have h2:=s.len
  have hc:(AZ rows cols ts).Col.length=ts.length:=by simp [AZ]
  have hv:(AZ rows cols ts).Val.length=ts.length:=by simp [AZ]
  refine ⟨by omega,by omega,by omega,by omega,by omega,by omega,?_⟩
  simp only [Int.toNat_natCast,AZ,←List.map_take,←List.map_drop,s.eq]
  exact hQ
theorem nG {l:List Rows} {Q:List Rows→Prop} (hl:l.length≤100) (h:∀ a∈l,QJ a∧QE a) (hQ:Q l):YK l Q:=by
  unfold YK
  refine BE (fun (s:List Rows) i=>(s,i)) 0 l.length (by omega) (fun i s=>s=l.take i) (by omega) rfl (fun i s next _ hi hm hn=>?_) (fun s next hm=>?_)
  · subst hm
    have hx:=h _ (List.getElem_mem hi)
    refine AD (fun _=>BH hi (bZ hx.1 ?_)) (fun h=>by omega)
    rw [decide_eq_true hx.2]
    refine AV rfl (BJ (by simp; omega) (hn _ ?_))
    rw [List.take_succ_eq_append_getElem hi]
  · subst hm
    rw [List.take_length]
    exact AD (fun h=>by omega) (fun _=>hQ)
theorem nH {ts:List AC} (h:Srt ts) (i:Nat):IncI ((KL ts i).map RM):=by
  unfold IncI KL
  rw [List.pairwise_map]
  refine List.Pairwise.imp_of_mem ?_ (List.Pairwise.filter _ h)
  intro a b ha hb hab
  have h1:=of_decide_eq_true (List.mem_filter.1 ha).2
  have h2:=of_decide_eq_true (List.mem_filter.1 hb).2
  unfold PV key at hab
  simp only [RM]
  simp only at hab
  omega
def Aa7 (m:List (Int×AN)) (asked:Int→Bool) (f:Int→Option AN):Prop:=(∀ c,asked c=true→BS c m=f c)∧∀ c w,BS c m=some w→NJ w
theorem AdN {l:List (Int×Bool)} {k:Int} {C:Bool→Prop} (h:C ((BS k l).getD false)):wG l k false C:=KP h
theorem tH {r:Int} {B:Int→Option Int} {acc:Option AN} {y:CF} (h:B y.At=none):MU r B acc y=acc:=by unfold MU; rw [h]
theorem xD {r:Int} {B:Int→Option Int} {acc:Option AN} {y:CF} {x:Int} (h:B y.At=some x):MU r B acc y=fO r acc (some (aC r y.Val x)):=by unfold MU; rw [h]
theorem qB {r ra ca rb cb:Int} {A B:List AC} {asked:List (Int×Bool)} {i:Nat} {Q:List (Int×AN)→Prop} (hA:Canon ra ca A) (hB:Canon rb cb B) (hab:ca≤rb) (hi:(i:Int)<ra) (hr:1≤r∧r≤5) (hvA:∀ t∈A,HJ t.Val) (hvB:∀ t∈B,HJ t.Val)
    (hQ:∀ m,Aa7 m (fun c=>(BS c asked).getD false) (MV r A B i)→Q m):QT asked r (AZ ra ca A) (AZ rb cb B) i Q:=by
  unfold QT
  refine WI hA hi ?_
  have hsl:=OV A i
  have hAl:=hA.len
  have hBl:=hB.len
  have hrow:∀ t∈KL A i,(0≤t.Col∧t.Col<ca)∧HJ t.Val:=fun t ht=>by
    have hm:=(List.mem_filter.1 ht).1
    have:=hA.inn t hm
    unfold UM at this
    exact ⟨⟨this.2.2.1,this.2.2.2⟩,hvA t hm⟩
  unfold MV at hQ
  rw [show fP A (i:Int)=(KL A i).map RM from rfl] at hQ
  generalize KL A i=xs at hQ hsl hrow
  refine BE (fun (s:List (Int×AN)) k=>(s,k)) 0 xs.length (by omega) (fun k m=>Aa7 m (fun c=>(BS c asked).getD false) fun c=>((xs.take k).map RM).foldl (MU r (jZ B c)) none) (by omega) ⟨fun c _=>rfl,fun c w h=>by simp [BS] at h⟩ (fun k m next _ hk hm hn=>?_) (fun m next hm=>?_)
  · dsimp only
    have hx:=hrow _ (List.getElem_mem hk)
    refine AD (fun _=>AO (by omega) (x:=xs[k].Col) (by simp [hk]) ?_) (fun h=>by simp at h; omega)
    obtain ⟨c0,hc0⟩:∃ c0:Nat,xs[k].Col=(c0:Int):=⟨xs[k].Col.toNat,by omega⟩
    rw [hc0]
    refine WI hB (by omega) ?_
    have hinc:=nH hB.srt c0
    have hsl2:=OV B c0
    have hrow2:∀ t∈KL B c0,HJ t.Val:=fun t ht=>hvB t (List.mem_filter.1 ht).1
    have hbat:∀ c,jZ B c xs[k].Col=YZ ((KL B c0).map RM) c:=fun c=>by unfold jZ fP; rw [hc0]; rfl
    generalize KL B c0=ys at hinc hsl2 hrow2 hbat
    -- how it is behind so many of the row's items
    let F:Nat→Int→Option AN:=fun j c=>match YZ ((ys.take j).map RM) c with
      | some b=>fO r (((xs.take k).map RM).foldl (MU r (jZ B c)) none) (some (aC r xs[k].Val b))
      | none=>((xs.take k).map RM).foldl (MU r (jZ B c)) none
    have hF0:F 0=fun c=>((xs.take k).map RM).foldl (MU r (jZ B c)) none:=rfl
    refine BE (fun (s:List (Int×AN)) j=>(s,j)) 0 ys.length (by omega) (fun j m=>Aa7 m (fun c=>(BS c asked).getD false) (F j)) (by omega) (by rw [hF0]; exact hm) (fun j m' nx _ hj hm' hnx=>?_) (fun m' nx hm'=>?_)
    · dsimp only
      have htk:(ys.take (j+1)).map RM=(ys.take j).map RM++[RM ys[j]]:=HE hj
      have hFs:∀ c,F (j+1) c=if c=ys[j].Col then F (j+1) c else F j c:=fun c=>by
        by_cases e:c=ys[j].Col
        · rw [if_pos e]
        · rw [if_neg e]
          have:YZ ((ys.take (j+1)).map RM) c=YZ ((ys.take j).map RM) c:=by
            rw [htk,SS]
            have h0:YZ [RM ys[j]] c=none:=cD fun s hs=>by simp only [List.mem_singleton] at hs; subst hs; exact fun h=>e h.symm
            rw [h0]; split <;> simp_all
          show (match YZ ((ys.take (j+1)).map RM) c with | some b=>_ | none=>_)=_
          rw [this]
      have hnew:YZ ((ys.take j).map RM) ys[j].Col=none:=cD fun s hs=>by
        obtain ⟨t,ht,rfl⟩:=List.mem_map.1 hs
        obtain ⟨q,hq,rfl⟩:=List.getElem_of_mem ht
        rw [List.length_take] at hq
        rw [List.getElem_take]
        have hlen:(ys.map RM).length=ys.length:=by simp
        have:=hinc.at (i:=q) (j:=j) (by omega) (by omega)
        simp only [List.getElem_map] at this
        intro h
        simp only [RM] at this h
        omega
      have hold:F j ys[j].Col=((xs.take k).map RM).foldl (MU r (jZ B ys[j].Col)) none:=by
        show (match YZ ((ys.take j).map RM) ys[j].Col with | some b=>_ | none=>_)=_
        rw [hnew]
      have hhit:F (j+1) ys[j].Col=fO r (F j ys[j].Col) (some (aC r xs[k].Val ys[j].Val)):=by
        rw [hold]
        have:YZ ((ys.take (j+1)).map RM) ys[j].Col=some ys[j].Val:=by rw [htk,SS,hnew]; simp [LN,RM]
        show (match YZ ((ys.take (j+1)).map RM) ys[j].Col with | some b=>_ | none=>_)=_
        rw [this]
      have hy:=hrow2 _ (List.getElem_mem hj)
      refine AD (fun _=>AO (by omega) (x:=ys[j].Col) (by simp [hj]) (AdN ?_)) (fun h=>by simp at h; omega)
      cases ha:(BS ys[j].Col asked).getD false with
      | false=>
        refine BM rfl (hnx _ ⟨fun c hc=>?_,hm'.2⟩)
        rw [hFs,if_neg (fun e=>by subst e; simp only at hc; rw [ha] at hc; cases hc)]
        exact hm'.1 c hc
      | true=>
        have hcur:=hm'.1 ys[j].Col ha
        refine AV rfl (AO (by omega) (x:=xs[k].Val) (by simp [hk]) (AO (by omega) (x:=ys[j].Val) (by simp [hj]) (pX hx.2 hy (ZX (fun w hw=>?_) (fun hw=>?_)))))
        · refine BM rfl (XS (hm'.2 _ _ hw) (NM _ _ _) (hnx _ ⟨fun c hc=>?_,fun c u hu=>?_⟩))
          · by_cases e:c=ys[j].Col
            · subst e; rw [BP,hhit,←hcur,hw]; rfl
            · rw [BI e,hFs,if_neg e]; exact hm'.1 c hc
          · by_cases e:c=ys[j].Col
            · subst e; rw [BP] at hu; cases hu; exact VA (hm'.2 _ _ hw) (NM _ _ _)
            · rw [BI e] at hu; exact hm'.2 c u hu
        · refine AV rfl (hnx _ ⟨fun c hc=>?_,fun c u hu=>?_⟩)
          · by_cases e:c=ys[j].Col
            · subst e; rw [BP,hhit,←hcur,hw]; rfl
            · rw [BI e,hFs,if_neg e]; exact hm'.1 c hc
          · by_cases e:c=ys[j].Col
            · subst e; rw [BP] at hu; cases hu; exact NM _ _ _
            · rw [BI e] at hu; exact hm'.2 c u hu
    · dsimp only
      refine AD (fun h=>by simp at h) (fun _=>hn _ ⟨fun c hc=>?_,hm'.2⟩)
      rw [hm'.1 c hc,HE hk]
      show F ys.length c=List.foldl (MU r (jZ B c)) none ((xs.take k).map RM++[RM xs[k]])
      rw [List.foldl_append]
      show (match YZ ((ys.take ys.length).map RM) c with | some b=>_ | none=>_)=MU r (jZ B c) _ (RM xs[k])
      rw [List.take_length,←hbat c]
      unfold MU
      simp only [RM]
      all_goals (split <;> simp_all)
  · dsimp only
    rw [List.take_length] at hm
    exact AD (fun h=>by simp at h) (fun _=>hQ m hm)
def aG (r ra ca rb cb rm cm:Int) (A B M:List AC):List AK×Int:=
  if ¬(1≤r∧r≤5) then ([],8) else if ca≠rb∨rm≠ra∨cm≠cb then ([],4) else (GO r A B M,0)
theorem xE (r:Int) (A B M:List AC):(GO r A B M).length≤M.length:=List.length_filterMap_le _ _
theorem Aa8 {T:List AC} {i lo hi:Nat} (s:Seg T i lo hi):T.take hi=T.take lo++KL T i:=by
  have h:=List.take_append_drop lo (T.take hi)
  rw [s.eq,List.take_take,Nat.min_eq_left s.le] at h
  exact h.symm
theorem kA {r ra ca rb cb rm cm:Int} {A B M:List AC} {Q:List AK×Int→Prop} (hA:Canon ra ca A) (hB:Canon rb cb B) (hM:Canon rm cm M) (hvA:∀ t∈A,HJ t.Val) (hvB:∀ t∈B,HJ t.Val)
    (hQ:Q (aG r ra ca rb cb rm cm A B M)):SG r (AZ ra ca A) (AZ rb cb B) (AZ rm cm M) Q:=by
  unfold SG
  refine nG (by simp) (fun a ha=>?_) (AO (by omega) rfl (AO (by omega) rfl (AO (by omega) rfl (MG ?_))))
  · simp only [List.mem_cons,List.not_mem_nil,or_false] at ha
    rcases ha with rfl | rfl | rfl
    · exact ⟨hA.sml,hA.right⟩
    · exact ⟨hB.sml,hB.right⟩
    · exact ⟨hM.sml,hM.right⟩
  unfold aG at hQ
  refine CS (fun h=>?_) (fun h=>?_)
  · rwa [if_pos (of_decide_eq_false h)] at hQ
  have hr:=of_decide_eq_true h
  rw [if_neg (fun h=>h hr)] at hQ
  have hbad (hb:ca≠rb∨rm≠ra∨cm≠cb):Q ([],4):=by rwa [if_pos hb] at hQ
  refine DW (fun h=>hbad (.inl h)) (fun h1=>DW (fun h=>hbad (.inr (.inl h))) (fun h2=>DW (fun h=>hbad (.inr (.inr h))) (fun h3=>?_)))
  have h1:ca=rb:=h1
  have h2:rm=ra:=h2
  have h3:cm=cb:=h3
  rw [if_neg (by omega)] at hQ
  have hrm:=hM.r0; have hrm1:=hM.r1; have hMl:=hM.len
  obtain ⟨n,hn⟩:∃ n:Nat,rm=(n:Int):=⟨rm.toNat,by omega⟩
  have hR:(AZ rm cm M).Rows=(n:Int):=hn
  rw [hR]
  refine BE (fun (s:List AK) i=>(s,i)) 0 n (by omega) (fun i s=>s=(M.take (EF M i).toNat).filterMap (HF r A B)) (by omega) (by rw [WF (fun t ht=>(hM.inn t ht).1)]; rfl) (fun i s next _ hi hm hnx=>?_) (fun s next hm=>?_)
  · subst hm
    dsimp only
    obtain ⟨lo,hi',sg⟩:=hM.seg i
    have hlo:=sg.lo; have hhi:=sg.hi; have hle:=sg.le; have hlen:=sg.len
    have htk:=Aa8 sg
    rw [show (EF M i).toNat=lo by omega]
    have hnx':=hnx ((M.take lo).filterMap (HF r A B)++(KL M i).filterMap (HF r A B)) (by rw [show (EF M (i+1)).toNat=hi' by omega,htk,List.filterMap_append])
    clear hnx
    have hrow:∀ t∈KL M i,t.Row=(i:Int):=fun t ht=>of_decide_eq_true (List.mem_filter.1 ht).2
    have hout:((M.take lo).filterMap (HF r A B)).length≤65536:=by
      have:=List.length_filterMap_le (HF r A B) (M.take lo)
      rw [List.length_take] at this; omega
    have hsl:=OV M i
    refine AD (fun _=>WI hM (by omega) ?_) (fun h=>by omega)
    generalize (M.take lo).filterMap (HF r A B)=out at hnx' hout ⊢
    generalize KL M i=xs at hnx' hrow hsl ⊢
    refine BE (fun (s:List (Int×Bool)) k=>(s,k)) 0 xs.length (by omega) (fun k m=>∀ q (hq:q<xs.length),q<k→BS xs[q].Col m=some true) (by omega) (fun q hq h=>by omega) (fun k m nx _ hk hm hnk=>?_) (fun m nx hm=>?_)
    · dsimp only
      refine AD (fun _=>AO (by omega) (x:=xs[k].Col) (by simp [hk]) (hnk _ fun q hq hqk=>?_)) (fun h=>by simp at h; omega)
      by_cases e:xs[q].Col=xs[k].Col
      · rw [e,BP]
      · rw [BI e]
        refine hm q hq ?_
        by_cases e2:q=k
        · subst e2; exact absurd rfl e
        · omega
    · dsimp only
      refine AD (fun h=>by simp at h) (fun _=>?_)
      refine qB hA hB (by omega) (by omega) hr hvA hvB fun sums hsums=>?_
      refine BE (fun (s:List AK) k=>(s,k)) 0 xs.length (by omega) (fun k s=>s=out++(xs.take k).filterMap (HF r A B)) (by omega) (by simp) (fun k s ny _ hk hm2 hny=>?_) (fun s ny hm2=>?_)
      · subst hm2
        dsimp only
        have hlk:=List.length_filterMap_le (HF r A B) (xs.take k)
        rw [List.length_take] at hlk
        have hask:=hm k hk hk
        have hcur:=hsums.1 xs[k].Col (by simp only [hask]; rfl)
        have hcell:HF r A B xs[k]=(MV r A B i xs[k].Col).map fun w=>⟨(i:Int),xs[k].Col,w⟩:=by
          unfold HF; rw [hrow _ (List.getElem_mem hk)]
        have hstep:(xs.take (k+1)).filterMap (HF r A B)=(xs.take k).filterMap (HF r A B)++(HF r A B xs[k]).toList:=by
          rw [List.take_succ_eq_append_getElem hk,List.filterMap_append]
          congr 1
        refine AD (fun _=>AO (by omega) (x:=xs[k].Col) (by simp [hk]) (ZX (fun w hw=>?_) (fun hw=>?_))) (fun h=>by simp at h; omega)
        · refine BM rfl (BJ (by simp; omega) (hny _ ?_))
          rw [hstep,hcell,←hcur,hw,List.append_assoc]; rfl
        · refine AV rfl (hny _ ?_)
          rw [hstep,hcell,←hcur,hw]; simp
      · subst hm2
        dsimp only
        rw [List.take_length]
        exact AD (fun h=>by simp at h) (fun _=>hnx')
  · subst hm
    dsimp only
    refine AD (fun h=>by omega) (fun _=>?_)
    have:=YQ hM
    rw [show rm.toNat=n by omega] at this
    rw [this,Int.toNat_natCast,List.take_length]
    exact hQ
theorem Ac4 (B:List AC) {k c:Int} (hk:0≤k):pV B k c=AeY (jZ B c k):=by
  unfold pV jZ fP KL
  induction B with
  | nil=>rfl
  | cons t B ih=>
    rw [List.find?_cons,List.filter_cons]
    by_cases h1:t.Row=k
    · rw [show decide (t.Row=((k.toNat:Nat):Int))=true from decide_eq_true (by omega)]
      by_cases h2:t.Col=c
      · rw [show decide (key t=(k,c))=true from decide_eq_true (by unfold key; rw [h1,h2])]
        simp [LN,RM,h2,AeY]
      · rw [show decide (key t=(k,c))=false from decide_eq_false (fun h=>h2 (by unfold key at h; simp_all))]
        simp only [if_true,List.map_cons,LN,RM]
        rw [if_neg (fun h=>h2 h.symm)]
        exact ih
    · rw [show decide (t.Row=((k.toNat:Nat):Int))=false from decide_eq_false (by omega),show decide (key t=(k,c))=false from decide_eq_false (fun h=>h1 (by unfold key at h; simp_all))]
      exact ih
theorem nI {r ra ca rb cb rm cm:Int} {A B M:List AC} {Q:List AK×Int→Prop} (hA:Canon ra ca A) (hB:Canon rb cb B) (hM:Canon rm cm M) (hvA:∀ t∈A,HJ t.Val) (hvB:∀ t∈B,HJ t.Val)
    (hQ:Q (aG r ra ca rb cb rm cm A B M)):MO r (AZ ra ca A) (AZ rb cb B) (AZ rm cm M) Q:=by
  unfold MO
  refine PX hA.sml ?_
  rw [FT hA]
  refine PX hB.sml ?_
  rw [FT hB]
  refine PX hM.sml ?_
  rw [FT hM]
  unfold aG at hQ
  refine XT (CS (fun h=>?_) (fun h=>?_))
  · rwa [if_pos (of_decide_eq_false h)] at hQ
  have hr:=of_decide_eq_true h
  rw [if_neg (fun h=>h hr)] at hQ
  have hbad (hb:ca≠rb∨rm≠ra∨cm≠cb):Q ([],4):=by rwa [if_pos hb] at hQ
  refine DW (fun h=>hbad (.inl h)) (fun h1=>DW (fun h=>hbad (.inr (.inl h))) (fun h2=>DW (fun h=>hbad (.inr (.inr h))) (fun h3=>?_)))
  have h1:ca=rb:=h1
  have h2:rm=ra:=h2
  have h3:cm=cb:=h3
  rw [if_neg (by omega)] at hQ
  have hMl:=hM.len; have hAl:=hA.len; have hAr:=hA.r1
  refine iK hM.sml (FT hM) hM ?_
  refine BE (fun (s:List AK) i=>(s,i)) 0 M.length (by omega) (fun i s=>s=(M.take i).filterMap (HF r A B)) (by omega) rfl (fun i s next _ hi hm hnx=>?_) (fun s next hm=>?_)
  · subst hm
    dsimp only
    have hin:=hM.inn _ (List.getElem_mem hi)
    unfold UM at hin
    have hlk:=List.length_filterMap_le (HF r A B) (M.take i)
    rw [List.length_take] at hlk
    have hstep:(M.take (i+1)).filterMap (HF r A B)=(M.take i).filterMap (HF r A B)++(HF r A B M[i]).toList:=by
      rw [List.take_succ_eq_append_getElem hi,List.filterMap_append]
      congr 1
    rw [hstep] at hnx
    generalize (M.take i).filterMap (HF r A B)=out at hnx hlk ⊢
    refine AD (fun _=>BH hi ?_) (fun h=>by omega)
    have hidx:∀ {K:AC→Prop},K M[i]→BC M (i:Int) K:=fun hK=>BH hi hK
    generalize M[i]=t at hin hnx hidx ⊢
    obtain ⟨n,hn⟩:∃ n:Nat,t.Row=(n:Int):=⟨t.Row.toNat,by omega⟩
    obtain ⟨lo,hi',sg⟩:=hA.seg n
    have hlo:=sg.lo; have hhi:=sg.hi; have hle:=sg.le; have hlen:=sg.len
    rw [hn]
    refine GC (by omega) ?_
    rw [hlo]
    have e1:AJ ((n:Int)+1)=(n+1:Nat):=by rw [AX (by omega) (by omega)]; omega
    refine BE (s0:=(none:Option AN)) (fun (s:Option AN) k=>((s.getD ⟨0,0⟩).Hi,(s.getD ⟨0,0⟩).Lo,s.isSome,k)) lo hi' (by omega) (fun p acc=>acc=(((A.take p).drop lo).map RM).foldl (MU r (jZ B t.Col)) none) (by omega) (by rw [List.drop_eq_nil_of_le (by rw [List.length_take]; omega)]; rfl) (fun p acc nx h4 h5 hacc hnp=>?_) (fun acc nx hacc=>?_)
    · dsimp only
      refine hidx ?_
      rw [hn,e1]
      refine GC (by omega) ?_
      rw [hhi]
      have hpA:p<A.length:=by omega
      have hat:0≤A[p].Col:=(hA.inn _ (List.getElem_mem hpA)).2.2.1
      have hokA:∀ w,acc=some w→NJ w:=fun w hw=>by rw [hacc] at hw; exact dO r _ _ none (fun _ h=>by cases h) w hw
      have hstp:(((A.take (p+1)).drop lo).map RM).foldl (MU r (jZ B t.Col)) none=MU r (jZ B t.Col) acc (RM A[p]):=by
        rw [pU h4 hpA,List.map_append,List.foldl_append,←hacc]; rfl
      rw [hstp] at hnp
      refine AD (fun _=>AO (by omega) (x:=A[p].Col) (by simp [AZ,hpA]) (hidx (iL hB.sml (FT hB) hB ?_))) (fun h=>by omega)
      rw [Ac4 B hat]
      cases hb:jZ B t.Col A[p].Col with
      | none=>
        refine BM rfl ?_
        have:=hnp acc (tH (y:=RM A[p]) hb).symm
        exact this
      | some x=>
        have hx:HJ x:=by
          unfold jZ fP at hb
          have:=nE hb
          obtain ⟨u,hu,he⟩:=List.mem_map.1 this
          have hv:=hvB u (List.mem_filter.1 hu).1
          unfold RM at he
          simp only [CF.mk.injEq] at he
          rw [←he.2]; exact hv
        refine AV rfl (AO (by omega) (x:=A[p].Val) (by simp [AZ,hpA]) (nD (hvA _ (List.getElem_mem hpA)) hx ?_))
        have hs:=xD (r:=r) (acc:=acc) (y:=RM A[p]) hb
        cases hac:acc with
        | none=>
          rw [hac] at hs
          refine AV rfl ?_
          exact hnp (some (aC r A[p].Val x)) (by rw [hac,hs]; rfl)
        | some w=>
          rw [hac] at hs
          refine BM rfl (bX (hokA w hac) (NM _ _ _) ?_)
          exact hnp (some (GN r w (aC r A[p].Val x))) (by rw [hac,hs]; rfl)
    · dsimp only
      refine hidx ?_
      rw [hn,e1]
      refine GC (by omega) ?_
      rw [hhi]
      refine AD (fun h=>by omega) (fun _=>?_)
      have hw:acc=MV r A B t.Row t.Col:=by
        rw [hacc,sg.eq]
        unfold MV fP
        rw [hn]; rfl
      have hc:HF r A B t=acc.map fun w=>⟨t.Row,t.Col,w⟩:=by unfold HF; rw [←hw]
      cases hac:acc with
      | none=>
        refine AV rfl (hnx _ ?_)
        rw [hc,hac]; simp
      | some w=>
        refine BM rfl (hidx (hidx (BJ (by simp; omega) (hnx _ ?_))))
        rw [hc,hac]; rfl
  · subst hm
    dsimp only
    rw [List.take_length]
    exact AD (fun h=>by omega) (fun _=>hQ)
theorem cF {xs ys:List AK} {Q:Bool→Prop} (hl:xs.length≤1000000000000) (he:xs=ys) (hQ:Q true):IY xs ys Q:=by
  subst he
  unfold IY
  refine DW (fun h=>absurd rfl h) (fun _=>?_)
  refine EO xs.length hl (fun _=>True) trivial (fun i next hi _ hn=>?_) (fun next _=>?_)
  · exact AD (fun _=>BH hi (BH hi (AV (by simp) (hn trivial)))) (fun h=>by omega)
  · exact AD (fun h=>by omega) (fun _=>hQ)
def gH (a b:AK):Prop:=PV (a.Row,a.Col) (b.Row,b.Col)
structure Aa9 (rows cols:Int) (l:List AK):Prop where
  inc:l.Pairwise gH
  inn:∀ c∈l,(0≤c.Row∧c.Row<rows)∧(0≤c.Col∧c.Col<cols)
  ok:∀ c∈l,NJ c.Val
  len:l.length≤65536
theorem nJ {r ra ca rb cb rm cm:Int} {A B M:List AC} (hM:Canon rm cm M):Aa9 rm cm (GO r A B M):=by
  have hmem:∀ c∈GO r A B M,∃ t∈M,c.Row=t.Row∧c.Col=t.Col∧NJ c.Val:=fun c hc=>by
    obtain ⟨t,ht,he⟩:=List.mem_filterMap.1 hc
    unfold HF at he
    cases hw:MV r A B t.Row t.Col with
    | none=>rw [hw] at he; cases he
    | some w=>rw [hw] at he; cases he; exact ⟨t,ht,rfl,rfl,dO r _ _ none (fun _ h=>by cases h) w hw⟩
  refine ⟨?_,fun c hc=>?_,fun c hc=>?_,Nat.le_trans (xE r A B M) hM.len⟩
  · refine List.Pairwise.filterMap _ (fun a b hab c hc d hd=>?_) hM.srt
    unfold HF at hc hd
    cases hw:MV r A B a.Row a.Col with
    | none=>rw [hw] at hc; cases hc
    | some w=>
      cases hu:MV r A B b.Row b.Col with
      | none=>rw [hu] at hd; cases hd
      | some u=>rw [hw] at hc; rw [hu] at hd; cases hc; cases hd; exact hab
  · obtain ⟨t,ht,h1,h2,_⟩:=hmem c hc
    have:=hM.inn t ht
    unfold UM at this
    omega
  · obtain ⟨t,_,_,_,h⟩:=hmem c hc; exact h
theorem TR (x y:AK):wR (SQ x.Row y.Row) (SQ x.Col y.Col)<0↔gH x y:=by
  unfold gH PV wR SQ
  simp only
  split <;> split <;> (try split) <;> omega
theorem UC {x y:AK} {Q:Int→Prop} (h:Q (wR (SQ x.Row y.Row) (SQ x.Col y.Col))):SH x y Q:=by
  unfold SH
  exact HO (HO (lB h))
theorem kB {l:List AK} {Q:Bool→Prop} (hl:l.length≤1000000) (h:l.Pairwise gH) (hQ:Q true):KG l Q:=by
  unfold KG
  refine EO l.length (by omega) (fun _=>True) trivial (fun i next hi _ hn=>?_) (fun next _=>?_)
  · refine AD (fun _=>AD (fun hp=>?_) (fun _=>hn trivial)) (fun h=>by omega)
    have e:AJ ((i:Int) - 1)=((i - 1:Nat):Int):=by rw [AX (by omega) (by omega)]; omega
    rw [e]
    refine BH (by omega) (BH hi (UC (AD (fun h0=>?_) (fun _=>hn trivial))))
    have h1:=(TR l[i - 1] l[i]).2 (List.pairwise_iff_getElem.1 h (i - 1) i (by omega) hi (by omega))
    omega
  · exact AD (fun h=>by omega) (fun _=>hQ)
def nzC (r:Int) (c:AK):Option AC:=if (OT c.Val).1≠zS r then some ⟨c.Row,c.Col,(OT c.Val).1⟩ else none
def ZJ (r rows cols:Int) (l:List AK):Rows×Int:=if l.all (fun c=>(OT c.Val).2) then zI r rows cols (l.filterMap (nzC r)) else (zR,12)
theorem AaA (a:AN):HJ (OT a).1:=by
  unfold OT HJ
  split
  · rw [GM]; omega
  · simp
theorem Ac5 {r:Int} {l:List AK}:∀ t∈l.filterMap (nzC r),HJ t.Val:=fun t ht=>by
  obtain ⟨c,_,he⟩:=List.mem_filterMap.1 ht
  unfold nzC at he
  split at he
  · cases he; exact AaA _
  · cases he
theorem xF {r:Int} {l:List AK} {i:Nat} (hi:i<l.length):(l.take (i+1)).filterMap (nzC r)=(l.take i).filterMap (nzC r)++(nzC r l[i]).toList:=by
  rw [List.take_succ_eq_append_getElem hi,List.filterMap_append]
  congr 1
theorem nK {r rows cols:Int} {l:List AK} {Q:Rows×Int→Prop} (hr:1≤r∧r≤5) (h0:(0≤rows∧rows≤4096)∧(0≤cols∧cols≤4096)) (h:Aa9 rows cols l) (hQ:Q (ZJ r rows cols l)):YL r rows cols l Q:=by
  unfold YL EV
  have hl:=h.len
  refine MG ?_
  rw [decide_eq_true hr]
  refine AV rfl ?_
  unfold KH
  refine AD (fun _=>CS (fun hn=>by have:=of_decide_eq_false hn; omega) (fun _=>AD (fun _=>?_) (fun h=>by omega))) (fun h=>by omega)
  dsimp only
  rw [show (!decide (cols≤4096))=false by simp; omega]
  refine AV rfl ?_
  have hk:KG l fun r155=>AR (!r155) (Q (zR,6)) (AR (decide (65536<(l.length:Int))) (Q (zR,5)) (BK (fun (s:(List AC)×Int) (next454:((List AC)×Int)→Prop)=>match s with | (s448,s452)=>AR (decide (s452<(l.length:Int))) (BC l s452 fun x472=>MM r x472.Val fun r486=>AR (!r486.2) (Q (zR,12)) (UZ r fun r496=>AR (r486.1 != r496) (HV 24 s448 ([({ Row:=x472.Row,Col:=x472.Col,Val:=r486.1 }:AC)]) fun _=>next454 ((s448++([({ Row:=x472.Row,Col:=x472.Col,Val:=r486.1 }:AC)])),AJ (s452+1))) (next454 (s448,AJ (s452+1))))) (SF r rows cols s448 fun r512=>Q (r512.1,r512.2))) (([]:List AC),0))):=by
    refine kB (by omega) h.inc (AV rfl (AD (fun h=>by omega) (fun _=>?_)))
    refine BE (fun (s:List AC) i=>(s,i)) 0 l.length (by omega) (fun i s=>s=(l.take i).filterMap (nzC r)∧∀ q (hq:q<l.length),q<i→(OT l[q].Val).2=true) (by omega) ⟨rfl,fun q hq h=>by omega⟩ (fun i s next _ hi hm hn=>?_) (fun s next hm=>?_)
    · obtain ⟨rfl,hok⟩:=hm
      have hst:=xF (r:=r) hi
      have hlk:=List.length_filterMap_le (nzC r) (l.take i)
      rw [List.length_take] at hlk
      refine AD (fun _=>BH hi (lD (h.ok _ (List.getElem_mem hi)) ?_)) (fun h=>by omega)
      cases hb:(OT l[i].Val).2 with
      | false=>
        refine BM rfl ?_
        unfold ZJ at hQ
        rw [if_neg (fun ha=>by have:=List.all_eq_true.1 ha l[i] (List.getElem_mem hi); rw [hb] at this; cases this)] at hQ
        exact hQ
      | true=>
        have hok':∀ q (hq:q<l.length),q<i+1→(OT l[q].Val).2=true:=fun q hq hqi=>by
          by_cases e:q=i
          · subst e; exact hb
          · exact hok q hq (by omega)
        refine AV rfl (nF (DW (fun hz=>BJ (by simp; omega) (hn _ ⟨?_,hok'⟩)) (fun hz=>hn _ ⟨?_,hok'⟩)))
        · rw [hst]; unfold nzC; rw [if_pos hz]; rfl
        · rw [hst]; unfold nzC; rw [if_neg (fun h=>h hz)]; simp
    · obtain ⟨rfl,hok⟩:=hm
      refine AD (fun h=>by omega) (fun _=>?_)
      rw [List.take_length]
      have hlk:=List.length_filterMap_le (nzC r) l
      unfold ZJ at hQ
      rw [if_pos (List.all_eq_true.2 fun c hc=>by obtain ⟨q,hq,rfl⟩:=List.getElem_of_mem hc; exact hok q hq hq)] at hQ
      exact zK (by omega) Ac5 hQ
  unfold DC DK QC KH
  have e1:AJ (rows - 1)=rows - 1:=AX (by omega) (by omega)
  have e2:AJ (cols - 1)=cols - 1:=AX (by omega) (by omega)
  rw [e1,e2]
  refine EO l.length (by omega) (fun _=>True) trivial (fun i next hi _ hn=>?_) (fun next _=>?_)
  · have hc:=h.inn _ (List.getElem_mem hi)
    refine AD (fun _=>BH hi (AD (fun _=>CS (fun hb=>by have:=of_decide_eq_false hb; omega) (fun _=>AD (fun _=>?_) (fun h=>by omega))) (fun h=>by omega))) (fun h=>by omega)
    dsimp only
    rw [show (!decide ((l[i]).Col≤cols - 1))=false by simp; omega]
    exact AV rfl (hn trivial)
  · exact AD (fun h=>by omega) (fun _=>AV (by decide) hk)
theorem iP {x:Int} {Q:Int→Prop} (h:WS .u8 x) (hQ:∀ n:Int,0≤n→n≤13→Q n):MN x Q:=by
  unfold MN
  have hb:=bounds_u8 h
  refine hQ _ ?_ ?_
  · rw [Int.tmod_eq_emod_of_nonneg (by omega)]; omega
  · rw [Int.tmod_eq_emod_of_nonneg (by omega)]; omega
theorem iQ {n:Int} (h0:0≤n) (h1:n≤13):JY n=n:=by unfold JY; omega
theorem AaB {a:OI} {Q:Rows×Rows×Rows→Prop} (hs:WS .u8 a.Size.1∧WS .u8 a.Size.2.1∧WS .u8 a.Size.2.2) (h1:∀ t∈a.A,LK t) (h2:∀ t∈a.B,LK t) (h3:∀ t∈a.M,LK t)
    (hQ:∀ n k m A B M,(0≤n∧n≤13)→(0≤k∧k≤13)→(0≤m∧m≤13)→Canon n k A→Canon k m B→Canon n m M→(∀ t∈A,HJ t.Val)→(∀ t∈B,HJ t.Val)→(∀ t∈M,HJ t.Val)→Q (AZ n k A,AZ k m B,AZ n m M)):KS a Q:=by
  unfold KS
  refine iP hs.1 fun n n0 n1=>iP hs.2.1 fun k k0 k1=>iP hs.2.2 fun m m0 m1=>?_
  refine dP ⟨RO n0 (Int.le_trans n1 (by decide)),RO k0 (Int.le_trans k1 (by decide))⟩ h1 fun A hA vA=>dP ⟨RO k0 (Int.le_trans k1 (by decide)),RO m0 (Int.le_trans m1 (by decide))⟩ h2 fun B hB vB=>dP ⟨RO n0 (Int.le_trans n1 (by decide)),RO m0 (Int.le_trans m1 (by decide))⟩ h3 fun M hM vM=>?_
  simp only [iQ n0 n1,iQ k0 k1,iQ m0 m1] at hA hB hM ⊢
  exact hQ n k m A B M ⟨n0,n1⟩ ⟨k0,k1⟩ ⟨m0,m1⟩ hA hB hM vA vB vM
theorem qC {rows cols:Int} {T:List AC} (h:Canon rows cols T) {i j a:Int} (hi:0≤i):YZ (fP T i) j=some a↔(⟨i,j,a⟩:AC)∈T:=by
  unfold fP
  rw [Ac2 (nH h.srt i.toNat),List.mem_map]
  unfold KL
  constructor
  · rintro ⟨t,ht,he⟩
    obtain ⟨h1,h2⟩:=List.mem_filter.1 ht
    have h3:=of_decide_eq_true h2
    unfold RM at he
    obtain ⟨tr,tc,tv⟩:=t
    simp only [CF.mk.injEq] at he h3
    obtain ⟨rfl,rfl⟩:=he
    rw [show i=tr by omega]
    exact h1
  · intro ht
    exact ⟨_,List.mem_filter.2 ⟨ht,by simp; omega⟩,rfl⟩
theorem VE {r rows cols:Int} {A B:List AC} (h:Canon rows cols A) {i:Int} (hi:0≤i) (c:Int):MV r A B i c=aD r cols.toNat (YZ (fP A i)) (jZ B c):=by
  unfold MV
  refine Aa0 (nH h.srt _) (fun x hx=>?_)
  obtain ⟨t,ht,rfl⟩:=List.mem_map.1 hx
  have:=h.inn t (List.mem_filter.1 ht).1
  unfold UM at this
  unfold RM
  dsimp only
  omega
theorem XY {α β:Type} {f g:α→Option β}:∀ {l:List α},(∀ x∈l,f x=g x)→l.filterMap f=l.filterMap g
  | [],_=>rfl
  | x :: l,h=>by rw [List.filterMap_cons,List.filterMap_cons,h x (by simp),XY fun y hy=>h y (List.mem_cons_of_mem _ hy)]
def ZK (i m:Nat):List AC:=(List.range m).map fun j:Nat=>(⟨i,j,1⟩:AC)
def VF (n m:Nat):List AC:=(List.range n).flatMap fun i:Nat=>ZK i m
theorem tI (i m:Nat):ZK i (m+1)=ZK i m++[⟨i,m,1⟩]:=by unfold ZK; rw [List.range_succ,List.map_append]; rfl
theorem iR (n m:Nat):VF (n+1) m=VF n m++ZK n m:=by unfold VF; rw [List.range_succ,List.flatMap_append]; simp
theorem dQ (m:Nat):∀ n:Nat,(VF n m).length=n*m
  | 0=>by simp [VF]
  | n+1=>by rw [iR,List.length_append,dQ m n,ZK,List.length_map,List.length_range,Nat.succ_mul]
theorem dR {n m:Nat} {t:AC} (h:t∈VF n m):UM n m t∧t.Val=1:=by
  obtain ⟨i,hi,h⟩:=List.mem_flatMap.1 h
  obtain ⟨j,hj,rfl⟩:=List.mem_map.1 h
  rw [List.mem_range] at hi hj
  unfold UM
  refine ⟨⟨?_,?_,?_,?_⟩,rfl⟩ <;> dsimp only <;> omega
theorem eY {n m:Nat} (hn:n≤200) (hm:m≤200):Canon n m (VF n m) where
  r0:=by omega
  r1:=by omega
  c0:=by omega
  c1:=by omega
  len:=by
    rw [dQ]
    have:=Nat.mul_le_mul hn hm
    omega
  srt:=by
    unfold Srt VF
    rw [List.pairwise_flatMap]
    refine ⟨fun i _=>?_,?_⟩
    · unfold ZK
      rw [List.pairwise_map]
      refine List.Pairwise.imp (fun {a b} hab=>?_) (List.pairwise_lt_range (n:=m))
      unfold PV key
      dsimp only
      omega
    · refine List.Pairwise.imp (fun {a b} hab x hx y hy=>?_) (List.pairwise_lt_range (n:=n))
      obtain ⟨u,hu,rfl⟩:=List.mem_map.1 hx
      obtain ⟨v,hv,rfl⟩:=List.mem_map.1 hy
      unfold PV key
      dsimp only
      omega
  inn t ht:=(dR ht).1
end Go.Proofs.YtbohadngdkjljaaGreat
