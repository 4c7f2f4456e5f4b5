import Derived.Test.YtbohadngdkjljaaGreatPushJ
namespace Go.Proofs.YtbohadngdkjljaaGreat
open Go Go.Fw
set_option linter.unusedVariables false
set_option linter.unusedSimpArgs false
def jV (B:List AC) (c:Int) (k:Int):Option Int:=YY (fO B k) c
def MR (r:Int) (A B:List AC) (i c:Int):Option AN:=(fO A i).foldl (MQ r (jV B c)) none
def HD (r:Int) (A B:List AC) (t:AC):Option AK:=(MR r A B t.Row t.Col).map fun w=>⟨t.Row,t.Col,w⟩
def GD (r:Int) (A B M:List AC):List AK:=M.filterMap (HD r A B)
theorem WE {rows cols:Int} {ts:List AC} {i:Nat} {Q:List Int×List Int→Prop} (h:Canon rows cols ts) (hi:(i:Int)<rows) (hQ:Q ((KH ts i).map (·.Col),(KH ts i).map (·.Val))):RF (AX rows cols ts) i Q:=by
  unfold RF
  have hr:=h.r1
  obtain ⟨lo,hi',s⟩:=h.seg i
  have e1:AJ ((i:Int)+1)=(i+1:Nat):=by rw [AZ (by omega) (by omega)]; omega
  rw [e1]
  refine GA (by omega) (GA (by omega) ?_)
  rw [s.lo,s.hi]
  have h1:=s.le; have h2:=s.len
  have hc:(AX rows cols ts).Col.length=ts.length:=by simp [AX]
  have hv:(AX rows cols ts).Val.length=ts.length:=by simp [AX]
  refine ⟨by omega,by omega,by omega,by omega,by omega,by omega,?_⟩
  simp only [Int.toNat_natCast,AX,←List.map_take,←List.map_drop,s.eq]
  exact hQ
theorem nL {l:List Rows} {Q:List Rows→Prop} (hl:l.length≤100) (h:∀ a∈l,KY a∧QC a) (hQ:Q l):YH l Q:=by
  unfold YH
  refine BB (fun (s:List Rows) i=>(s,i)) 0 l.length (by omega) (fun i s=>s=l.take i) (by omega) rfl (fun i s next _ hi hm hn=>?_) (fun s next hm=>?_)
  · subst hm
    have hx:=h _ (List.getElem_mem hi)
    refine AB (fun _=>BA hi (bV hx.1 ?_)) (fun h=>by omega)
    rw [decide_eq_true hx.2]
    refine AV rfl (BK (by simp; omega) (hn _ ?_))
    rw [List.take_succ_eq_append_getElem hi]
  · subst hm
    rw [List.take_length]
    exact AB (fun h=>by omega) (fun _=>hQ)
theorem nM {ts:List AC} (h:Srt ts) (i:Nat):IncI ((KH ts i).map RH):=by
  unfold IncI KH
  rw [List.pairwise_map]
  refine List.Pairwise.imp_of_mem ?_ (List.Pairwise.filter _ h)
  intro a b ha hb hab
  have h1:=of_decide_eq_true (List.mem_filter.1 ha).2
  have h2:=of_decide_eq_true (List.mem_filter.1 hb).2
  unfold PF key at hab
  simp only [RH]
  simp only at hab
  omega
def Aa5 (m:List (Int×AN)) (asked:Int→Bool) (f:Int→Option AN):Prop:=(∀ c,asked c=true→BT c m=f c)∧∀ c w,BT c m=some w→NL w
theorem AdH {l:List (Int×Bool)} {k:Int} {C:Bool→Prop} (h:C ((BT k l).getD false)):wH l k false C:=KM h
theorem tN {r:Int} {B:Int→Option Int} {acc:Option AN} {y:CE} (h:B y.At=none):MQ r B acc y=acc:=by unfold MQ; rw [h]
theorem xE {r:Int} {B:Int→Option Int} {acc:Option AN} {y:CE} {x:Int} (h:B y.At=some x):MQ r B acc y=fN r acc (some (ZZ r y.Val x)):=by unfold MQ; rw [h]
theorem qI {r ra ca rb cb:Int} {A B:List AC} {asked:List (Int×Bool)} {i:Nat} {Q:List (Int×AN)→Prop} (hA:Canon ra ca A) (hB:Canon rb cb B) (hab:ca≤rb) (hi:(i:Int)<ra) (hr:1≤r∧r≤5) (hvA:∀ t∈A,GL t.Val) (hvB:∀ t∈B,GL t.Val)
    (hQ:∀ m,Aa5 m (fun c=>(BT c asked).getD false) (MR r A B i)→Q m):QP asked r (AX ra ca A) (AX rb cb B) i Q:=by
  unfold QP
  refine WE hA hi ?_
  have hsl:=OU A i
  have hAl:=hA.len
  have hBl:=hB.len
  have hrow:∀ t∈KH A i,(0≤t.Col∧t.Col<ca)∧GL t.Val:=fun t ht=>by
    have hm:=(List.mem_filter.1 ht).1
    have:=hA.inn t hm
    unfold UM at this
    exact ⟨⟨this.2.2.1,this.2.2.2⟩,hvA t hm⟩
  unfold MR at hQ
  rw [show fO A (i:Int)=(KH A i).map RH from rfl] at hQ
  generalize KH A i=xs at hQ hsl hrow
  refine BB (fun (s:List (Int×AN)) k=>(s,k)) 0 xs.length (by omega) (fun k m=>Aa5 m (fun c=>(BT c asked).getD false) fun c=>((xs.take k).map RH).foldl (MQ r (jV B c)) none) (by omega) ⟨fun c _=>rfl,fun c w h=>by simp [BT] at h⟩ (fun k m next _ hk hm hn=>?_) (fun m next hm=>?_)
  · dsimp only
    have hx:=hrow _ (List.getElem_mem hk)
    refine AB (fun _=>AP (by omega) (x:=xs[k].Col) (by simp [hk]) ?_) (fun h=>by simp at h; omega)
    obtain ⟨c0,hc0⟩:∃ c0:Nat,xs[k].Col=(c0:Int):=⟨xs[k].Col.toNat,by omega⟩
    rw [hc0]
    refine WE hB (by omega) ?_
    have hinc:=nM hB.srt c0
    have hsl2:=OU B c0
    have hrow2:∀ t∈KH B c0,GL t.Val:=fun t ht=>hvB t (List.mem_filter.1 ht).1
    have hbat:∀ c,jV B c xs[k].Col=YY ((KH B c0).map RH) c:=fun c=>by unfold jV fO; rw [hc0]; rfl
    generalize KH B c0=ys at hinc hsl2 hrow2 hbat
    -- how it is behind so many of the row's items
    let F:Nat→Int→Option AN:=fun j c=>match YY ((ys.take j).map RH) c with
      | some b=>fN r (((xs.take k).map RH).foldl (MQ r (jV B c)) none) (some (ZZ r xs[k].Val b))
      | none=>((xs.take k).map RH).foldl (MQ r (jV B c)) none
    have hF0:F 0=fun c=>((xs.take k).map RH).foldl (MQ r (jV B c)) none:=rfl
    refine BB (fun (s:List (Int×AN)) j=>(s,j)) 0 ys.length (by omega) (fun j m=>Aa5 m (fun c=>(BT c asked).getD false) (F j)) (by omega) (by rw [hF0]; exact hm) (fun j m' nx _ hj hm' hnx=>?_) (fun m' nx hm'=>?_)
    · dsimp only
      have htk:(ys.take (j+1)).map RH=(ys.take j).map RH++[RH ys[j]]:=HC hj
      have hFs:∀ c,F (j+1) c=if c=ys[j].Col then F (j+1) c else F j c:=fun c=>by
        by_cases e:c=ys[j].Col
        · rw [if_pos e]
        · rw [if_neg e]
          have:YY ((ys.take (j+1)).map RH) c=YY ((ys.take j).map RH) c:=by
            rw [htk,SP]
            have h0:YY [RH ys[j]] c=none:=bX fun s hs=>by simp only [List.mem_singleton] at hs; subst hs; exact fun h=>e h.symm
            rw [h0]; split <;> simp_all
          show (match YY ((ys.take (j+1)).map RH) c with | some b=>_ | none=>_)=_
          rw [this]
      have hnew:YY ((ys.take j).map RH) ys[j].Col=none:=bX fun s hs=>by
        obtain ⟨t,ht,rfl⟩:=List.mem_map.1 hs
        obtain ⟨q,hq,rfl⟩:=List.getElem_of_mem ht
        rw [List.length_take] at hq
        rw [List.getElem_take]
        have hlen:(ys.map RH).length=ys.length:=by simp
        have:=hinc.at (i:=q) (j:=j) (by omega) (by omega)
        simp only [List.getElem_map] at this
        intro h
        simp only [RH] at this h
        omega
      have hold:F j ys[j].Col=((xs.take k).map RH).foldl (MQ r (jV B ys[j].Col)) none:=by
        show (match YY ((ys.take j).map RH) ys[j].Col with | some b=>_ | none=>_)=_
        rw [hnew]
      have hhit:F (j+1) ys[j].Col=fN r (F j ys[j].Col) (some (ZZ r xs[k].Val ys[j].Val)):=by
        rw [hold]
        have:YY ((ys.take (j+1)).map RH) ys[j].Col=some ys[j].Val:=by rw [htk,SP,hnew]; simp [LJ,RH]
        show (match YY ((ys.take (j+1)).map RH) ys[j].Col with | some b=>_ | none=>_)=_
        rw [this]
      have hy:=hrow2 _ (List.getElem_mem hj)
      refine AB (fun _=>AP (by omega) (x:=ys[j].Col) (by simp [hj]) (AdH ?_)) (fun h=>by simp at h; omega)
      cases ha:(BT ys[j].Col asked).getD false with
      | false=>
        refine BJ rfl (hnx _ ⟨fun c hc=>?_,hm'.2⟩)
        rw [hFs,if_neg (fun e=>by subst e; simp only at hc; rw [ha] at hc; cases hc)]
        exact hm'.1 c hc
      | true=>
        have hcur:=hm'.1 ys[j].Col ha
        refine AV rfl (AP (by omega) (x:=xs[k].Val) (by simp [hk]) (AP (by omega) (x:=ys[j].Val) (by simp [hj]) (qE hx.2 hy (ZY (fun w hw=>?_) (fun hw=>?_)))))
        · refine BJ rfl (XQ (hm'.2 _ _ hw) (NO _ _ _) (hnx _ ⟨fun c hc=>?_,fun c u hu=>?_⟩))
          · by_cases e:c=ys[j].Col
            · subst e; rw [BQ,hhit,←hcur,hw]; rfl
            · rw [BH e,hFs,if_neg e]; exact hm'.1 c hc
          · by_cases e:c=ys[j].Col
            · subst e; rw [BQ] at hu; cases hu; exact UY (hm'.2 _ _ hw) (NO _ _ _)
            · rw [BH e] at hu; exact hm'.2 c u hu
        · refine AV rfl (hnx _ ⟨fun c hc=>?_,fun c u hu=>?_⟩)
          · by_cases e:c=ys[j].Col
            · subst e; rw [BQ,hhit,←hcur,hw]; rfl
            · rw [BH e,hFs,if_neg e]; exact hm'.1 c hc
          · by_cases e:c=ys[j].Col
            · subst e; rw [BQ] at hu; cases hu; exact NO _ _ _
            · rw [BH e] at hu; exact hm'.2 c u hu
    · dsimp only
      refine AB (fun h=>by simp at h) (fun _=>hn _ ⟨fun c hc=>?_,hm'.2⟩)
      rw [hm'.1 c hc,HC hk]
      show F ys.length c=List.foldl (MQ r (jV B c)) none ((xs.take k).map RH++[RH xs[k]])
      rw [List.foldl_append]
      show (match YY ((ys.take ys.length).map RH) c with | some b=>_ | none=>_)=MQ r (jV B c) _ (RH xs[k])
      rw [List.take_length,←hbat c]
      unfold MQ
      simp only [RH]
      all_goals (split <;> simp_all)
  · dsimp only
    rw [List.take_length] at hm
    exact AB (fun h=>by simp at h) (fun _=>hQ m hm)
def OV (r ra ca rb cb rm cm:Int) (A B M:List AC):List AK×Int:=
  if ¬(1≤r∧r≤5) then ([],8) else if ca≠rb∨rm≠ra∨cm≠cb then ([],4) else (GD r A B M,0)
theorem xF (r:Int) (A B M:List AC):(GD r A B M).length≤M.length:=List.length_filterMap_le _ _
theorem Aa6 {T:List AC} {i lo hi:Nat} (s:Seg T i lo hi):T.take hi=T.take lo++KH T i:=by
  have h:=List.take_append_drop lo (T.take hi)
  rw [s.eq,List.take_take,Nat.min_eq_left s.le] at h
  exact h.symm
theorem jW {r ra ca rb cb rm cm:Int} {A B M:List AC} {Q:List AK×Int→Prop} (hA:Canon ra ca A) (hB:Canon rb cb B) (hM:Canon rm cm M) (hvA:∀ t∈A,GL t.Val) (hvB:∀ t∈B,GL t.Val)
    (hQ:Q (OV r ra ca rb cb rm cm A B M)):SE r (AX ra ca A) (AX rb cb B) (AX rm cm M) Q:=by
  unfold SE
  refine nL (by simp) (fun a ha=>?_) (AP (by omega) rfl (AP (by omega) rfl (AP (by omega) rfl (MD ?_))))
  · simp only [List.mem_cons,List.not_mem_nil,or_false] at ha
    rcases ha with rfl | rfl | rfl
    · exact ⟨hA.sml,hA.right⟩
    · exact ⟨hB.sml,hB.right⟩
    · exact ⟨hM.sml,hM.right⟩
  unfold OV at hQ
  refine CN (fun h=>?_) (fun h=>?_)
  · rwa [if_pos (of_decide_eq_false h)] at hQ
  have hr:=of_decide_eq_true h
  rw [if_neg (fun h=>h hr)] at hQ
  have hbad (hb:ca≠rb∨rm≠ra∨cm≠cb):Q ([],4):=by rwa [if_pos hb] at hQ
  refine DI (fun h=>hbad (.inl h)) (fun h1=>DI (fun h=>hbad (.inr (.inl h))) (fun h2=>DI (fun h=>hbad (.inr (.inr h))) (fun h3=>?_)))
  have h1:ca=rb:=h1
  have h2:rm=ra:=h2
  have h3:cm=cb:=h3
  rw [if_neg (by omega)] at hQ
  have hrm:=hM.r0; have hrm1:=hM.r1; have hMl:=hM.len
  obtain ⟨n,hn⟩:∃ n:Nat,rm=(n:Int):=⟨rm.toNat,by omega⟩
  have hR:(AX rm cm M).Rows=(n:Int):=hn
  rw [hR]
  refine BB (fun (s:List AK) i=>(s,i)) 0 n (by omega) (fun i s=>s=(M.take (EF M i).toNat).filterMap (HD r A B)) (by omega) (by rw [WB (fun t ht=>(hM.inn t ht).1)]; rfl) (fun i s next _ hi hm hnx=>?_) (fun s next hm=>?_)
  · subst hm
    dsimp only
    obtain ⟨lo,hi',sg⟩:=hM.seg i
    have hlo:=sg.lo; have hhi:=sg.hi; have hle:=sg.le; have hlen:=sg.len
    have htk:=Aa6 sg
    rw [show (EF M i).toNat=lo by omega]
    have hnx':=hnx ((M.take lo).filterMap (HD r A B)++(KH M i).filterMap (HD r A B)) (by rw [show (EF M (i+1)).toNat=hi' by omega,htk,List.filterMap_append])
    clear hnx
    have hrow:∀ t∈KH M i,t.Row=(i:Int):=fun t ht=>of_decide_eq_true (List.mem_filter.1 ht).2
    have hout:((M.take lo).filterMap (HD r A B)).length≤65536:=by
      have:=List.length_filterMap_le (HD r A B) (M.take lo)
      rw [List.length_take] at this; omega
    have hsl:=OU M i
    refine AB (fun _=>WE hM (by omega) ?_) (fun h=>by omega)
    generalize (M.take lo).filterMap (HD r A B)=out at hnx' hout ⊢
    generalize KH M i=xs at hnx' hrow hsl ⊢
    refine BB (fun (s:List (Int×Bool)) k=>(s,k)) 0 xs.length (by omega) (fun k m=>∀ q (hq:q<xs.length),q<k→BT xs[q].Col m=some true) (by omega) (fun q hq h=>by omega) (fun k m nx _ hk hm hnk=>?_) (fun m nx hm=>?_)
    · dsimp only
      refine AB (fun _=>AP (by omega) (x:=xs[k].Col) (by simp [hk]) (hnk _ fun q hq hqk=>?_)) (fun h=>by simp at h; omega)
      by_cases e:xs[q].Col=xs[k].Col
      · rw [e,BQ]
      · rw [BH e]
        refine hm q hq ?_
        by_cases e2:q=k
        · subst e2; exact absurd rfl e
        · omega
    · dsimp only
      refine AB (fun h=>by simp at h) (fun _=>?_)
      refine qI hA hB (by omega) (by omega) hr hvA hvB fun sums hsums=>?_
      refine BB (fun (s:List AK) k=>(s,k)) 0 xs.length (by omega) (fun k s=>s=out++(xs.take k).filterMap (HD r A B)) (by omega) (by simp) (fun k s ny _ hk hm2 hny=>?_) (fun s ny hm2=>?_)
      · subst hm2
        dsimp only
        have hlk:=List.length_filterMap_le (HD r A B) (xs.take k)
        rw [List.length_take] at hlk
        have hask:=hm k hk hk
        have hcur:=hsums.1 xs[k].Col (by simp only [hask]; rfl)
        have hcell:HD r A B xs[k]=(MR r A B i xs[k].Col).map fun w=>⟨(i:Int),xs[k].Col,w⟩:=by
          unfold HD; rw [hrow _ (List.getElem_mem hk)]
        have hstep:(xs.take (k+1)).filterMap (HD r A B)=(xs.take k).filterMap (HD r A B)++(HD r A B xs[k]).toList:=by
          rw [List.take_succ_eq_append_getElem hk,List.filterMap_append]
          congr 1
        refine AB (fun _=>AP (by omega) (x:=xs[k].Col) (by simp [hk]) (ZY (fun w hw=>?_) (fun hw=>?_))) (fun h=>by simp at h; omega)
        · refine BJ rfl (BK (by simp; omega) (hny _ ?_))
          rw [hstep,hcell,←hcur,hw,List.append_assoc]; rfl
        · refine AV rfl (hny _ ?_)
          rw [hstep,hcell,←hcur,hw]; simp
      · subst hm2
        dsimp only
        rw [List.take_length]
        exact AB (fun h=>by simp at h) (fun _=>hnx')
  · subst hm
    dsimp only
    refine AB (fun h=>by omega) (fun _=>?_)
    have:=YO hM
    rw [show rm.toNat=n by omega] at this
    rw [this,Int.toNat_natCast,List.take_length]
    exact hQ
theorem Ac0 (B:List AC) {k c:Int} (hk:0≤k):qA B k c=AeS (jV B c k):=by
  unfold qA jV fO KH
  induction B with
  | nil=>rfl
  | cons t B ih=>
    rw [List.find?_cons,List.filter_cons]
    by_cases h1:t.Row=k
    · rw [show decide (t.Row=((k.toNat:Nat):Int))=true from decide_eq_true (by omega)]
      by_cases h2:t.Col=c
      · rw [show decide (key t=(k,c))=true from decide_eq_true (by unfold key; rw [h1,h2])]
        simp [LJ,RH,h2,AeS]
      · rw [show decide (key t=(k,c))=false from decide_eq_false (fun h=>h2 (by unfold key at h; simp_all))]
        simp only [if_true,List.map_cons,LJ,RH]
        rw [if_neg (fun h=>h2 h.symm)]
        exact ih
    · rw [show decide (t.Row=((k.toNat:Nat):Int))=false from decide_eq_false (by omega),show decide (key t=(k,c))=false from decide_eq_false (fun h=>h1 (by unfold key at h; simp_all))]
      exact ih
theorem nN {r ra ca rb cb rm cm:Int} {A B M:List AC} {Q:List AK×Int→Prop} (hA:Canon ra ca A) (hB:Canon rb cb B) (hM:Canon rm cm M) (hvA:∀ t∈A,GL t.Val) (hvB:∀ t∈B,GL t.Val)
    (hQ:Q (OV r ra ca rb cb rm cm A B M)):TN r (AX ra ca A) (AX rb cb B) (AX rm cm M) Q:=by
  unfold TN
  refine KG hA.sml ?_
  rw [EO hA]
  refine KG hB.sml ?_
  rw [EO hB]
  refine KG hM.sml ?_
  rw [EO hM]
  unfold OV at hQ
  refine TQ (CN (fun h=>?_) (fun h=>?_))
  · rwa [if_pos (of_decide_eq_false h)] at hQ
  have hr:=of_decide_eq_true h
  rw [if_neg (fun h=>h hr)] at hQ
  have hbad (hb:ca≠rb∨rm≠ra∨cm≠cb):Q ([],4):=by rwa [if_pos hb] at hQ
  refine DI (fun h=>hbad (.inl h)) (fun h1=>DI (fun h=>hbad (.inr (.inl h))) (fun h2=>DI (fun h=>hbad (.inr (.inr h))) (fun h3=>?_)))
  have h1:ca=rb:=h1
  have h2:rm=ra:=h2
  have h3:cm=cb:=h3
  rw [if_neg (by omega)] at hQ
  have hMl:=hM.len; have hAl:=hA.len; have hAr:=hA.r1
  refine iG hM.sml (EO hM) hM ?_
  refine BB (fun (s:List AK) i=>(s,i)) 0 M.length (by omega) (fun i s=>s=(M.take i).filterMap (HD r A B)) (by omega) rfl (fun i s next _ hi hm hnx=>?_) (fun s next hm=>?_)
  · subst hm
    dsimp only
    have hin:=hM.inn _ (List.getElem_mem hi)
    unfold UM at hin
    have hlk:=List.length_filterMap_le (HD r A B) (M.take i)
    rw [List.length_take] at hlk
    have hstep:(M.take (i+1)).filterMap (HD r A B)=(M.take i).filterMap (HD r A B)++(HD r A B M[i]).toList:=by
      rw [List.take_succ_eq_append_getElem hi,List.filterMap_append]
      congr 1
    rw [hstep] at hnx
    generalize (M.take i).filterMap (HD r A B)=out at hnx hlk ⊢
    refine AB (fun _=>BA hi ?_) (fun h=>by omega)
    have hidx:∀ {K:AC→Prop},K M[i]→AY M (i:Int) K:=fun hK=>BA hi hK
    generalize M[i]=t at hin hnx hidx ⊢
    obtain ⟨n,hn⟩:∃ n:Nat,t.Row=(n:Int):=⟨t.Row.toNat,by omega⟩
    obtain ⟨lo,hi',sg⟩:=hA.seg n
    have hlo:=sg.lo; have hhi:=sg.hi; have hle:=sg.le; have hlen:=sg.len
    rw [hn]
    refine GA (by omega) ?_
    rw [hlo]
    have e1:AJ ((n:Int)+1)=(n+1:Nat):=by rw [AZ (by omega) (by omega)]; omega
    refine BB (s0:=(none:Option AN)) (fun (s:Option AN) k=>((s.getD ⟨0,0⟩).Hi,(s.getD ⟨0,0⟩).Lo,s.isSome,k)) lo hi' (by omega) (fun p acc=>acc=(((A.take p).drop lo).map RH).foldl (MQ r (jV B t.Col)) none) (by omega) (by rw [List.drop_eq_nil_of_le (by rw [List.length_take]; omega)]; rfl) (fun p acc nx h4 h5 hacc hnp=>?_) (fun acc nx hacc=>?_)
    · dsimp only
      refine hidx ?_
      rw [hn,e1]
      refine GA (by omega) ?_
      rw [hhi]
      have hpA:p<A.length:=by omega
      have hat:0≤A[p].Col:=(hA.inn _ (List.getElem_mem hpA)).2.2.1
      have hokA:∀ w,acc=some w→NL w:=fun w hw=>by rw [hacc] at hw; exact dN r _ _ none (fun _ h=>by cases h) w hw
      have hstp:(((A.take (p+1)).drop lo).map RH).foldl (MQ r (jV B t.Col)) none=MQ r (jV B t.Col) acc (RH A[p]):=by
        rw [pZ h4 hpA,List.map_append,List.foldl_append,←hacc]; rfl
      rw [hstp] at hnp
      refine AB (fun _=>AP (by omega) (x:=A[p].Col) (by simp [AX,hpA]) (hidx (iH hB.sml (EO hB) hB ?_))) (fun h=>by omega)
      rw [Ac0 B hat]
      cases hb:jV B t.Col A[p].Col with
      | none=>
        refine BJ rfl ?_
        have:=hnp acc (tN (y:=RH A[p]) hb).symm
        exact this
      | some x=>
        have hx:GL x:=by
          unfold jV fO at hb
          have:=nJ hb
          obtain ⟨u,hu,he⟩:=List.mem_map.1 this
          have hv:=hvB u (List.mem_filter.1 hu).1
          unfold RH at he
          simp only [CE.mk.injEq] at he
          rw [←he.2]; exact hv
        refine AV rfl (AP (by omega) (x:=A[p].Val) (by simp [AX,hpA]) (nI (hvA _ (List.getElem_mem hpA)) hx ?_))
        have hs:=xE (r:=r) (acc:=acc) (y:=RH A[p]) hb
        cases hac:acc with
        | none=>
          rw [hac] at hs
          refine AV rfl ?_
          exact hnp (some (ZZ r A[p].Val x)) (by rw [hac,hs]; rfl)
        | some w=>
          rw [hac] at hs
          refine BJ rfl (bT (hokA w hac) (NO _ _ _) ?_)
          exact hnp (some (GN r w (ZZ r A[p].Val x))) (by rw [hac,hs]; rfl)
    · dsimp only
      refine hidx ?_
      rw [hn,e1]
      refine GA (by omega) ?_
      rw [hhi]
      refine AB (fun h=>by omega) (fun _=>?_)
      have hw:acc=MR r A B t.Row t.Col:=by
        rw [hacc,sg.eq]
        unfold MR fO
        rw [hn]; rfl
      have hc:HD r A B t=acc.map fun w=>⟨t.Row,t.Col,w⟩:=by unfold HD; rw [←hw]
      cases hac:acc with
      | none=>
        refine AV rfl (hnx _ ?_)
        rw [hc,hac]; simp
      | some w=>
        refine BJ rfl (hidx (hidx (BK (by simp; omega) (hnx _ ?_))))
        rw [hc,hac]; rfl
  · subst hm
    dsimp only
    rw [List.take_length]
    exact AB (fun h=>by omega) (fun _=>hQ)
def dP (a b:AK):Prop:=PF (a.Row,a.Col) (b.Row,b.Col)
structure qJ (rows cols:Int) (l:List AK):Prop where
  inc:l.Pairwise dP
  inn:∀ c∈l,(0≤c.Row∧c.Row<rows)∧(0≤c.Col∧c.Col<cols)
  ok:∀ c∈l,NL c.Val
  len:l.length≤65536
theorem gE {r ra ca rb cb rm cm:Int} {A B M:List AC} (hM:Canon rm cm M):qJ rm cm (GD r A B M):=by
  have hmem:∀ c∈GD r A B M,∃ t∈M,c.Row=t.Row∧c.Col=t.Col∧NL c.Val:=fun c hc=>by
    obtain ⟨t,ht,he⟩:=List.mem_filterMap.1 hc
    unfold HD at he
    cases hw:MR r A B t.Row t.Col with
    | none=>rw [hw] at he; cases he
    | some w=>rw [hw] at he; cases he; exact ⟨t,ht,rfl,rfl,dN r _ _ none (fun _ h=>by cases h) w hw⟩
  refine ⟨?_,fun c hc=>?_,fun c hc=>?_,Nat.le_trans (xF r A B M) hM.len⟩
  · refine List.Pairwise.filterMap _ (fun a b hab c hc d hd=>?_) hM.srt
    unfold HD at hc hd
    cases hw:MR r A B a.Row a.Col with
    | none=>rw [hw] at hc; cases hc
    | some w=>
      cases hu:MR r A B b.Row b.Col with
      | none=>rw [hu] at hd; cases hd
      | some u=>rw [hw] at hc; rw [hu] at hd; cases hc; cases hd; exact hab
  · obtain ⟨t,ht,h1,h2,_⟩:=hmem c hc
    have:=hM.inn t ht
    unfold UM at this
    omega
  · obtain ⟨t,_,_,_,h⟩:=hmem c hc; exact h
theorem TR (x y:AK):wT (SN x.Row y.Row) (SN x.Col y.Col)<0↔dP x y:=by
  unfold dP PF wT SN
  simp only
  split <;> split <;> (try split) <;> omega
theorem UD {x y:AK} {Q:Int→Prop} (h:Q (wT (SN x.Row y.Row) (SN x.Col y.Col))):SF x y Q:=by
  unfold SF
  exact HM (HM (lC h))
theorem jX {l:List AK} {Q:Bool→Prop} (hl:l.length≤1000000) (h:l.Pairwise dP) (hQ:Q true):KB l Q:=by
  unfold KB
  refine EB l.length (by omega) (fun _=>True) trivial (fun i next hi _ hn=>?_) (fun next _=>?_)
  · refine AB (fun _=>AB (fun hp=>?_) (fun _=>hn trivial)) (fun h=>by omega)
    have e:AJ ((i:Int) - 1)=((i - 1:Nat):Int):=by rw [AZ (by omega) (by omega)]; omega
    rw [e]
    refine BA (by omega) (BA hi (UD (AB (fun h0=>?_) (fun _=>hn trivial))))
    have h1:=(TR l[i - 1] l[i]).2 (List.pairwise_iff_getElem.1 h (i - 1) i (by omega) hi (by omega))
    omega
  · exact AB (fun h=>by omega) (fun _=>hQ)
theorem nO {l:List AK} {Q:Bool→Prop} (hl:l.length≤1000000) (h:l.Pairwise dP) (hQ:Q true):TL l Q:=by
  unfold TL
  by_cases h0:l.length=0
  · refine ⟨1,?_⟩
    exact AB (fun h=>by omega) (fun _=>hQ)
  refine BB (σ:=Unit) (fun _ i=>i) 1 l.length (by omega) (fun _ _=>True) (by omega) trivial (fun i s next h1 hi _ hn=>?_) (fun s next _=>?_) (s0:=())
  · refine AB (fun _=>?_) (fun h=>by omega)
    have e:AJ ((i:Int) - 1)=((i - 1:Nat):Int):=by rw [AZ (by omega) (by omega)]; omega
    rw [e]
    refine BA (by omega) (BA hi ?_)
    have h2:dP l[i - 1] l[i]:=List.pairwise_iff_getElem.1 h (i - 1) i (by omega) hi (by omega)
    unfold dP PF at h2
    simp only at h2
    unfold XN
    refine AB (fun _=>AV rfl (hn () trivial)) (fun h3=>BR (fun h4=>CN (fun h5=>?_) (fun _=>hn () trivial)) (fun h4=>?_))
    · have:=of_decide_eq_false h5; omega
    · omega
  · exact AB (fun h=>by omega) (fun _=>hQ)
def sI (r:Int) (c:AK):Option AC:=if (NA c.Val).1≠zS r then some ⟨c.Row,c.Col,(NA c.Val).1⟩ else none
def NP (r rows cols:Int) (l:List AK):Rows×Int:=if l.all (fun c=>(NA c.Val).2) then yA r rows cols (l.filterMap (sI r)) else (zR,12)
theorem Aa7 (a:AN):GL (NA a).1:=by
  unfold NA GL
  split
  · rw [GM]; omega
  · simp
theorem nP {r:Int} {l:List AK}:∀ t∈l.filterMap (sI r),GL t.Val:=fun t ht=>by
  obtain ⟨c,_,he⟩:=List.mem_filterMap.1 ht
  unfold sI at he
  split at he
  · cases he; exact Aa7 _
  · cases he
theorem lJ {r:Int} {l:List AK} {i:Nat} (hi:i<l.length):(l.take (i+1)).filterMap (sI r)=(l.take i).filterMap (sI r)++(sI r l[i]).toList:=by
  rw [List.take_succ_eq_append_getElem hi,List.filterMap_append]
  congr 1
theorem nQ {r rows cols:Int} {l:List AK} {Q:Rows×Int→Prop} (hr:1≤r∧r≤5) (h0:(0≤rows∧rows≤4096)∧(0≤cols∧cols≤4096)) (h:qJ rows cols l) (hQ:Q (NP r rows cols l)):YI r rows cols l Q:=by
  unfold YI EY
  have hl:=h.len
  refine MD ?_
  rw [decide_eq_true hr]
  refine AV rfl ?_
  unfold KC
  refine AB (fun _=>CN (fun hn=>by have:=of_decide_eq_false hn; omega) (fun _=>AB (fun _=>?_) (fun h=>by omega))) (fun h=>by omega)
  dsimp only
  rw [show (!decide (cols≤4096))=false by simp; omega]
  refine AV rfl ?_
  have hk:KB l fun r155=>AQ (!r155) (Q (zR,6)) (AQ (decide (65536<(l.length:Int))) (Q (zR,5)) (BN (fun (s:(List AC)×Int) (next454:((List AC)×Int)→Prop)=>match s with | (s448,s452)=>AQ (decide (s452<(l.length:Int))) (AY l s452 fun x472=>MK r x472.Val fun r486=>AQ (!r486.2) (Q (zR,12)) (UX r fun r496=>AQ (r486.1 != r496) (HS 24 s448 ([({ Row:=x472.Row,Col:=x472.Col,Val:=r486.1 }:AC)]) fun _=>next454 ((s448++([({ Row:=x472.Row,Col:=x472.Col,Val:=r486.1 }:AC)])),AJ (s452+1))) (next454 (s448,AJ (s452+1))))) (SD r rows cols s448 fun r512=>Q (r512.1,r512.2))) (([]:List AC),0))):=by
    refine jX (by omega) h.inc (AV rfl (AB (fun h=>by omega) (fun _=>?_)))
    refine BB (fun (s:List AC) i=>(s,i)) 0 l.length (by omega) (fun i s=>s=(l.take i).filterMap (sI r)∧∀ q (hq:q<l.length),q<i→(NA l[q].Val).2=true) (by omega) ⟨rfl,fun q hq h=>by omega⟩ (fun i s next _ hi hm hn=>?_) (fun s next hm=>?_)
    · obtain ⟨rfl,hok⟩:=hm
      have hst:=lJ (r:=r) hi
      have hlk:=List.length_filterMap_le (sI r) (l.take i)
      rw [List.length_take] at hlk
      refine AB (fun _=>BA hi (lE (h.ok _ (List.getElem_mem hi)) ?_)) (fun h=>by omega)
      cases hb:(NA l[i].Val).2 with
      | false=>
        refine BJ rfl ?_
        unfold NP at hQ
        rw [if_neg (fun ha=>by have:=List.all_eq_true.1 ha l[i] (List.getElem_mem hi); rw [hb] at this; cases this)] at hQ
        exact hQ
      | true=>
        have hok':∀ q (hq:q<l.length),q<i+1→(NA l[q].Val).2=true:=fun q hq hqi=>by
          by_cases e:q=i
          · subst e; exact hb
          · exact hok q hq (by omega)
        refine AV rfl (nK (DI (fun hz=>BK (by simp; omega) (hn _ ⟨?_,hok'⟩)) (fun hz=>hn _ ⟨?_,hok'⟩)))
        · rw [hst]; unfold sI; rw [if_pos hz]; rfl
        · rw [hst]; unfold sI; rw [if_neg (fun h=>h hz)]; simp
    · obtain ⟨rfl,hok⟩:=hm
      refine AB (fun h=>by omega) (fun _=>?_)
      rw [List.take_length]
      have hlk:=List.length_filterMap_le (sI r) l
      unfold NP at hQ
      rw [if_pos (List.all_eq_true.2 fun c hc=>by obtain ⟨q,hq,rfl⟩:=List.getElem_of_mem hc; exact hok q hq hq)] at hQ
      exact zJ (by omega) nP hQ
  unfold DB DK PY KC
  have e1:AJ (rows - 1)=rows - 1:=AZ (by omega) (by omega)
  have e2:AJ (cols - 1)=cols - 1:=AZ (by omega) (by omega)
  rw [e1,e2]
  refine EB l.length (by omega) (fun _=>True) trivial (fun i next hi _ hn=>?_) (fun next _=>?_)
  · have hc:=h.inn _ (List.getElem_mem hi)
    refine AB (fun _=>BA hi (AB (fun _=>CN (fun hb=>by have:=of_decide_eq_false hb; omega) (fun _=>AB (fun _=>?_) (fun h=>by omega))) (fun h=>by omega))) (fun h=>by omega)
    dsimp only
    rw [show (!decide ((l[i]).Col≤cols - 1))=false by simp; omega]
    exact AV rfl (hn trivial)
  · exact AB (fun h=>by omega) (fun _=>AV (by decide) hk)
theorem qK {r rows cols:Int} {l:List AK} {Q:Rows×Int→Prop} (hr:1≤r∧r≤5) (h0:(0≤rows∧rows≤4096)∧(0≤cols∧cols≤4096)) (h:qJ rows cols l) (hQ:Q (NP r rows cols l)):VV r rows cols l Q:=by
  unfold VV
  have hl:=h.len
  refine TQ ?_
  rw [decide_eq_true hr]
  refine AV rfl (AB (fun h=>by omega) (fun _=>AB (fun h=>by omega) (fun _=>AB (fun h=>by omega) (fun _=>AB (fun h=>by omega) (fun _=>?_)))))
  refine EB l.length (by omega) (fun _=>True) trivial (fun i next hi _ hn=>?_) (fun next _=>?_)
  · have hc:=h.inn _ (List.getElem_mem hi)
    exact AB (fun _=>BA hi (AB (fun h=>by omega) (fun _=>BA hi (AB (fun h=>by omega) (fun _=>BA hi (AB (fun h=>by omega) (fun _=>BA hi (AB (fun h=>by omega) (fun _=>hn trivial))))))))) (fun h=>by omega)
  refine AB (fun h=>by omega) (fun _=>nO (by omega) h.inc (AV rfl (AB (fun h=>by omega) (fun _=>?_))))
  refine BB (fun (s:List AC) i=>(s,i)) 0 l.length (by omega) (fun i s=>s=(l.take i).filterMap (sI r)∧∀ q (hq:q<l.length),q<i→(NA l[q].Val).2=true) (by omega) ⟨rfl,fun q hq h=>by omega⟩ (fun i s next _ hi hm hn=>?_) (fun s next hm=>?_)
  · obtain ⟨rfl,hok⟩:=hm
    have hst:=lJ (r:=r) hi
    have hlk:=List.length_filterMap_le (sI r) (l.take i)
    rw [List.length_take] at hlk
    refine AB (fun _=>BA hi (WQ (h.ok _ (List.getElem_mem hi)) ?_)) (fun h=>by omega)
    cases hb:(NA l[i].Val).2 with
    | false=>
      refine BJ rfl ?_
      unfold NP at hQ
      rw [if_neg (fun ha=>by have:=List.all_eq_true.1 ha l[i] (List.getElem_mem hi); rw [hb] at this; cases this)] at hQ
      exact hQ
    | true=>
      have hok':∀ q (hq:q<l.length),q<i+1→(NA l[q].Val).2=true:=fun q hq hqi=>by
        by_cases e:q=i
        · subst e; exact hb
        · exact hok q hq (by omega)
      refine AV rfl (jU (DI (fun hz=>BA hi (BA hi (BK (by simp; omega) (hn _ ⟨?_,hok'⟩)))) (fun hz=>hn _ ⟨?_,hok'⟩)))
      · rw [hst]; unfold sI; rw [if_pos hz]; rfl
      · rw [hst]; unfold sI; rw [if_neg (fun h=>h hz)]; simp
  · obtain ⟨rfl,hok⟩:=hm
    refine AB (fun h=>by omega) (fun _=>?_)
    rw [List.take_length]
    have hlk:=List.length_filterMap_le (sI r) l
    unfold NP at hQ
    rw [if_pos (List.all_eq_true.2 fun c hc=>by obtain ⟨q,hq,rfl⟩:=List.getElem_of_mem hc; exact hok q hq hq)] at hQ
    exact YN (by omega) nP hQ
def dQ (r ra ca rb cb rm cm:Int) (A B M:List AC):Rows×Int:=
  if (OV r ra ca rb cb rm cm A B M).2≠0 then (zR,(OV r ra ca rb cb rm cm A B M).2) else NP r ra cb (OV r ra ca rb cb rm cm A B M).1
theorem qL {r ra ca rb cb rm cm:Int} {A B M:List AC} (hM:Canon rm cm M) (h:(OV r ra ca rb cb rm cm A B M).2=0):(1≤r∧r≤5)∧qJ ra cb (OV r ra ca rb cb rm cm A B M).1:=by
  unfold OV at h ⊢
  by_cases h1:1≤r∧r≤5
  · rw [if_neg (fun h=>h h1)] at h ⊢
    by_cases h2:ca≠rb∨rm≠ra∨cm≠cb
    · rw [if_pos h2] at h; cases h
    · rw [if_neg h2]
      have e1:rm=ra:=by omega
      have e2:cm=cb:=by omega
      subst e1 e2
      exact ⟨h1,gE (ra:=rm) (ca:=ca) (rb:=rb) (cb:=cm) hM⟩
  · rw [if_pos h1] at h; cases h
theorem nR {r ra ca rb cb rm cm:Int} {A B M:List AC} {Q:Rows×Int→Prop} (hA:Canon ra ca A) (hB:Canon rb cb B) (hM:Canon rm cm M) (hvA:∀ t∈A,GL t.Val) (hvB:∀ t∈B,GL t.Val)
    (hQ:Q (dQ r ra ca rb cb rm cm A B M)):PP r (AX ra ca A) (AX rb cb B) (AX rm cm M) Q:=by
  unfold PP
  unfold dQ at hQ
  refine nN hA hB hM hvA hvB (DI (fun h=>by rwa [if_pos h] at hQ) (fun h=>?_))
  rw [if_neg (fun h'=>h' h)] at hQ
  have hz:=qL hM h
  refine KG hA.sml ?_
  rw [EO hA]
  refine KG hB.sml ?_
  rw [EO hB]
  exact qK hz.1 ⟨⟨hA.r0,hA.r1⟩,hB.c0,hB.c1⟩ hz.2 hQ
theorem iL {x:Int} {Q:Int→Prop} (h:YC .u8 x) (hQ:∀ n:Int,0≤n→n≤13→Q n):ML x Q:=by
  unfold ML
  have hb:=bounds_u8 h
  refine hQ _ ?_ ?_
  · rw [Int.tmod_eq_emod_of_nonneg (by omega)]; omega
  · rw [Int.tmod_eq_emod_of_nonneg (by omega)]; omega
theorem iM {n:Int} (h0:0≤n) (h1:n≤13):JR n=n:=by unfold JR; omega
theorem Aa8 {a:OI} {Q:Rows×Rows×Rows→Prop} (hs:YC .u8 a.Size.1∧YC .u8 a.Size.2.1∧YC .u8 a.Size.2.2) (h1:∀ t∈a.A,LG t) (h2:∀ t∈a.B,LG t) (h3:∀ t∈a.M,LG t)
    (hQ:∀ n k m A B M,(0≤n∧n≤13)→(0≤k∧k≤13)→(0≤m∧m≤13)→Canon n k A→Canon k m B→Canon n m M→(∀ t∈A,GL t.Val)→(∀ t∈B,GL t.Val)→(∀ t∈M,GL t.Val)→Q (AX n k A,AX k m B,AX n m M)):KP a Q:=by
  unfold KP
  refine iL hs.1 fun n n0 n1=>iL hs.2.1 fun k k0 k1=>iL hs.2.2 fun m m0 m1=>?_
  refine dO ⟨RK n0 (Int.le_trans n1 (by decide)),RK k0 (Int.le_trans k1 (by decide))⟩ h1 fun A hA vA=>dO ⟨RK k0 (Int.le_trans k1 (by decide)),RK m0 (Int.le_trans m1 (by decide))⟩ h2 fun B hB vB=>dO ⟨RK n0 (Int.le_trans n1 (by decide)),RK m0 (Int.le_trans m1 (by decide))⟩ h3 fun M hM vM=>?_
  simp only [iM n0 n1,iM k0 k1,iM m0 m1] at hA hB hM ⊢
  exact hQ n k m A B M ⟨n0,n1⟩ ⟨k0,k1⟩ ⟨m0,m1⟩ hA hB hM vA vB vM
theorem qM {r ra ca rb cb rm cm:Int} {A B M:List AC}:KY (dQ r ra ca rb cb rm cm A B M).1:=by
  unfold dQ NP
  split
  · simp [KY,zR]
  · split
    · exact zO nP
    · simp [KY,zR]
theorem qN {rows cols:Int} {T:List AC} (h:Canon rows cols T) {i j a:Int} (hi:0≤i):YY (fO T i) j=some a↔(⟨i,j,a⟩:AC)∈T:=by
  unfold fO
  rw [AbY (nM h.srt i.toNat),List.mem_map]
  unfold KH
  constructor
  · rintro ⟨t,ht,he⟩
    obtain ⟨h1,h2⟩:=List.mem_filter.1 ht
    have h3:=of_decide_eq_true h2
    unfold RH at he
    obtain ⟨tr,tc,tv⟩:=t
    simp only [CE.mk.injEq] at he h3
    obtain ⟨rfl,rfl⟩:=he
    rw [show i=tr by omega]
    exact h1
  · intro ht
    exact ⟨_,List.mem_filter.2 ⟨ht,by simp; omega⟩,rfl⟩
theorem VC {r rows cols:Int} {A B:List AC} (h:Canon rows cols A) {i:Int} (hi:0≤i) (c:Int):MR r A B i c=aA r cols.toNat (YY (fO A i)) (jV B c):=by
  unfold MR
  refine zY (nM h.srt _) (fun x hx=>?_)
  obtain ⟨t,ht,rfl⟩:=List.mem_map.1 hx
  have:=h.inn t (List.mem_filter.1 ht).1
  unfold UM at this
  unfold RH
  dsimp only
  omega
theorem XV {α β:Type} {f g:α→Option β}:∀ {l:List α},(∀ x∈l,f x=g x)→l.filterMap f=l.filterMap g
  | [],_=>rfl
  | x :: l,h=>by rw [List.filterMap_cons,List.filterMap_cons,h x (by simp),XV fun y hy=>h y (List.mem_cons_of_mem _ hy)]
def ZM (i m:Nat):List AC:=(List.range m).map fun j:Nat=>(⟨i,j,1⟩:AC)
def VD (n m:Nat):List AC:=(List.range n).flatMap fun i:Nat=>ZM i m
theorem tO (i m:Nat):ZM i (m+1)=ZM i m++[⟨i,m,1⟩]:=by unfold ZM; rw [List.range_succ,List.map_append]; rfl
theorem iN (n m:Nat):VD (n+1) m=VD n m++ZM n m:=by unfold VD; rw [List.range_succ,List.flatMap_append]; simp
theorem dR (m:Nat):∀ n:Nat,(VD n m).length=n*m
  | 0=>by simp [VD]
  | n+1=>by rw [iN,List.length_append,dR m n,ZM,List.length_map,List.length_range,Nat.succ_mul]
theorem dS {n m:Nat} {t:AC} (h:t∈VD n m):UM n m t∧t.Val=1:=by
  obtain ⟨i,hi,h⟩:=List.mem_flatMap.1 h
  obtain ⟨j,hj,rfl⟩:=List.mem_map.1 h
  rw [List.mem_range] at hi hj
  unfold UM
  refine ⟨⟨?_,?_,?_,?_⟩,rfl⟩ <;> dsimp only <;> omega
theorem fA {n m:Nat} (hn:n≤200) (hm:m≤200):Canon n m (VD n m) where
  r0:=by omega
  r1:=by omega
  c0:=by omega
  c1:=by omega
  len:=by
    rw [dR]
    have:=Nat.mul_le_mul hn hm
    omega
  srt:=by
    unfold Srt VD
    rw [List.pairwise_flatMap]
    refine ⟨fun i _=>?_,?_⟩
    · unfold ZM
      rw [List.pairwise_map]
      refine List.Pairwise.imp (fun {a b} hab=>?_) (List.pairwise_lt_range (n:=m))
      unfold PF key
      dsimp only
      omega
    · refine List.Pairwise.imp (fun {a b} hab x hx y hy=>?_) (List.pairwise_lt_range (n:=n))
      obtain ⟨u,hu,rfl⟩:=List.mem_map.1 hx
      obtain ⟨v,hv,rfl⟩:=List.mem_map.1 hy
      unfold PF key
      dsimp only
      omega
  inn t ht:=(dS ht).1
end Go.Proofs.YtbohadngdkjljaaGreat
