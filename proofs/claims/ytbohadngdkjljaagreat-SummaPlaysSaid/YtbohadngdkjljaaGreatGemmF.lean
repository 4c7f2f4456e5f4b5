import Derived.Test.YtbohadngdkjljaaGreatPushJ
namespace Go.Proofs.YtbohadngdkjljaaGreat
open Go Go.Fw
set_option linter.unusedVariables false
set_option linter.unusedSimpArgs false
def gU (B:List A3) (c:Int) (k:Int):Option Int:=WZ (dK B k) c
def KY (r:Int) (A B:List A3) (i c:Int):Option AL:=(dK A i).foldl (M7 r (gU B c)) none
def G4 (r:Int) (A B:List A3) (t:A3):Option AB:=(KY r A B t.Row t.Col).map fun w=>⟨t.Row,t.Col,w⟩
def FT (r:Int) (A B M:List A3):List AB:=M.filterMap (G4 r A B)
theorem TS {rows cols:Int} {D:List A3} {i:Nat} {Q:List Int×List Int→Prop} (h:Canon rows cols D) (hi:(i:Int)<rows) (J:Q ((JY D i).map (·.Col),(JY D i).map (·.Val))):PQ (B0 rows cols D) i Q:=by
 unfold PQ
 have hr:=h.r1
 obtain ⟨lo,G,s⟩:=h.seg i
 have O:A7 ((i:Int)+1)=(i+1:Nat):=by rw [AJ (by omega) (by omega)]; omega
 rw [O]
 refine FY (by omega) (FY (by omega) ?_)
 rw [s.lo,s.hi]
 have h1:=s.le; have h2:=s.len
 have hc:(B0 rows cols D).Col.length=D.length:=by simp [B0]
 have hv:(B0 rows cols D).Val.length=D.length:=by simp [B0]
 refine ⟨by omega,by omega,by omega,by omega,by omega,by omega,?_⟩
 simp only [Int.toNat_natCast,B0,←List.map_take,←List.map_drop,s.eq]
 exact J
theorem lH {l:List Rows} {Q:List Rows→Prop} (hl:l.length≤100) (h:∀ a∈l,KV a∧NT a) (J:Q l):WI l Q:=by
 unfold WI
 refine B2 (fun (s:List Rows) i=>(s,i)) 0 l.length (by omega) (fun i s=>s=l.take i) (by omega) rfl (fun i s next _ hi D O=>?_) (fun s next D=>?_)
 · subst D
   have G:=h _ (List.getElem_mem hi)
   refine A0 (fun _=>AK hi (ZH G.1 ?_)) (fun h=>by omega)
   rw [decide_eq_true G.2]
   refine AC rfl (AR (by simp; omega) (O _ ?_))
   rw [List.take_succ_eq_append_getElem hi]
 · subst D
   rw [List.take_length]
   exact A0 (fun h=>by omega) (fun _=>J)
theorem lI {G:List A3} (h:Srt G) (i:Nat):IncI ((JY G i).map PU):=by
 unfold IncI JY
 rw [List.pairwise_map]
 refine List.Pairwise.imp_of_mem ?_ (List.Pairwise.filter _ h)
 intro a b O J D
 have h1:=of_decide_eq_true (List.mem_filter.1 O).2
 have h2:=of_decide_eq_true (List.mem_filter.1 J).2
 unfold MF key at D
 simp only [PU]
 simp only at D
 omega
def yM (m:List (Int×AL)) (h:Int→Bool) (f:Int→Option AL):Prop:=(∀ c,h c=true→BK c m=f c)∧∀ c w,BK c m=some w→LI w
theorem AcT {l:List (Int×Bool)} {k:Int} {C:Bool→Prop} (h:C ((BK k l).getD false)):wN l k false C:=K6 h
theorem rI {r:Int} {B:Int→Option Int} {acc:Option AL} {y:CN} (h:B y.At=none):M7 r B acc y=acc:=by unfold M7; rw [h]
theorem vI {r:Int} {B:Int→Option Int} {acc:Option AL} {y:CN} {x:Int} (h:B y.At=some x):M7 r B acc y=dJ r acc (some (Y7 r y.Val x)):=by unfold M7; rw [h]
theorem oJ {r ra ca rb cb:Int} {A B:List A3} {G:List (Int×Bool)} {i:Nat} {Q:List (Int×AL)→Prop} (hA:Canon ra ca A) (hB:Canon rb cb B) (hab:ca≤rb) (hi:(i:Int)<ra) (hr:1≤r∧r≤5) (hvA:∀ t∈A,GN t.Val) (hvB:∀ t∈B,GN t.Val)
   (hQ:∀ m,yM m (fun c=>(BK c G).getD false) (KY r A B i)→Q m):PB G r (B0 ra ca A) (B0 rb cb B) i Q:=by
 unfold PB
 refine TS hA hi ?_
 have hsl:=NU A i
 have hAl:=hA.len
 have hBl:=hB.len
 have W:∀ t∈JY A i,(0≤t.Col∧t.Col<ca)∧GN t.Val:=fun t ht=>by
   have hm:=(List.mem_filter.1 ht).1
   have:=hA.inn t hm
   unfold RC at this
   exact ⟨⟨this.2.2.1,this.2.2.2⟩,hvA t hm⟩
 unfold KY at hQ
 rw [show dK A (i:Int)=(JY A i).map PU from rfl] at hQ
 generalize JY A i=xs at hQ hsl W
 refine B2 (fun (s:List (Int×AL)) k=>(s,k)) 0 xs.length (by omega) (fun k m=>yM m (fun c=>(BK c G).getD false) fun c=>((xs.take k).map PU).foldl (M7 r (gU B c)) none) (by omega) ⟨fun c _=>rfl,fun c w h=>by simp [BK] at h⟩ (fun k m next _ hk hm hn=>?_) (fun m next hm=>?_)
 · dsimp only
   have hx:=W _ (List.getElem_mem hk)
   refine A0 (fun _=>A9 (by omega) (x:=xs[k].Col) (by simp [hk]) ?_) (fun h=>by simp at h; omega)
   obtain ⟨c0,hc0⟩:∃ c0:Nat,xs[k].Col=(c0:Int):=⟨xs[k].Col.toNat,by omega⟩
   rw [hc0]
   refine TS hB (by omega) ?_
   have Z:=lI hB.srt c0
   have hsl2:=NU B c0
   have J:∀ t∈JY B c0,GN t.Val:=fun t ht=>hvB t (List.mem_filter.1 ht).1
   have Y:∀ c,gU B c xs[k].Col=WZ ((JY B c0).map PU) c:=fun c=>by unfold gU dK; rw [hc0]; rfl
   generalize JY B c0=ys at Z hsl2 J Y
   -- how it is behind so many of the row's items
   let F:Nat→Int→Option AL:=fun j c=>match WZ ((ys.take j).map PU) c with
     | some b=>dJ r (((xs.take k).map PU).foldl (M7 r (gU B c)) none) (some (Y7 r xs[k].Val b))
     | none=>((xs.take k).map PU).foldl (M7 r (gU B c)) none
   have hF0:F 0=fun c=>((xs.take k).map PU).foldl (M7 r (gU B c)) none:=rfl
   refine B2 (fun (s:List (Int×AL)) j=>(s,j)) 0 ys.length (by omega) (fun j m=>yM m (fun c=>(BK c G).getD false) (F j)) (by omega) (by rw [hF0]; exact hm) (fun j m' nx _ hj D hnx=>?_) (fun m' nx D=>?_)
   · dsimp only
     have htk:(ys.take (j+1)).map PU=(ys.take j).map PU++[PU ys[j]]:=GO hj
     have hFs:∀ c,F (j+1) c=if c=ys[j].Col then F (j+1) c else F j c:=fun c=>by
      by_cases e:c=ys[j].Col
      · rw [if_pos e]
      · rw [if_neg e]
        have:WZ ((ys.take (j+1)).map PU) c=WZ ((ys.take j).map PU) c:=by
          rw [htk,QM]
          have h0:WZ [PU ys[j]] c=none:=ZJ fun s hs=>by simp only [List.mem_singleton] at hs; subst hs; exact fun h=>e h.symm
          rw [h0]; split <;> simp_all
        show (match WZ ((ys.take (j+1)).map PU) c with | some b=>_ | none=>_)=_
        rw [this]
     have hnew:WZ ((ys.take j).map PU) ys[j].Col=none:=ZJ fun s hs=>by
      obtain ⟨t,ht,rfl⟩:=List.mem_map.1 hs
      obtain ⟨q,hq,rfl⟩:=List.getElem_of_mem ht
      rw [List.length_take] at hq
      rw [List.getElem_take]
      have hlen:(ys.map PU).length=ys.length:=by simp
      have:=Z.at (i:=q) (j:=j) (by omega) (by omega)
      simp only [List.getElem_map] at this
      intro h
      simp only [PU] at this h
      omega
     have hold:F j ys[j].Col=((xs.take k).map PU).foldl (M7 r (gU B ys[j].Col)) none:=by
      show (match WZ ((ys.take j).map PU) ys[j].Col with | some b=>_ | none=>_)=_
      rw [hnew]
     have V:F (j+1) ys[j].Col=dJ r (F j ys[j].Col) (some (Y7 r xs[k].Val ys[j].Val)):=by
      rw [hold]
      have:WZ ((ys.take (j+1)).map PU) ys[j].Col=some ys[j].Val:=by rw [htk,QM,hnew]; simp [KX,PU]
      show (match WZ ((ys.take (j+1)).map PU) ys[j].Col with | some b=>_ | none=>_)=_
      rw [this]
     have hy:=J _ (List.getElem_mem hj)
     refine A0 (fun _=>A9 (by omega) (x:=ys[j].Col) (by simp [hj]) (AcT ?_)) (fun h=>by simp at h; omega)
     cases ha:(BK ys[j].Col G).getD false with
     | false=>
      refine AY rfl (hnx _ ⟨fun c O=>?_,D.2⟩)
      rw [hFs,if_neg (fun e=>by subst e; simp only at O; rw [ha] at O; cases O)]
      exact D.1 c O
     | true=>
      have hcur:=D.1 ys[j].Col ha
      refine AC rfl (A9 (by omega) (x:=xs[k].Val) (by simp [hk]) (A9 (by omega) (x:=ys[j].Val) (by simp [hj]) (oE hx.2 hy (Y3 (fun w hw=>?_) (fun hw=>?_)))))
      · refine AY rfl (V4 (D.2 _ _ hw) (MW _ _ _) (hnx _ ⟨fun c O=>?_,fun c u U=>?_⟩))
        · by_cases e:c=ys[j].Col
          · subst e; rw [BG,V,←hcur,hw]; rfl
          · rw [BB e,hFs,if_neg e]; exact D.1 c O
        · by_cases e:c=ys[j].Col
          · subst e; rw [BG] at U; cases U; exact QK (D.2 _ _ hw) (MW _ _ _)
          · rw [BB e] at U; exact D.2 c u U
      · refine AC rfl (hnx _ ⟨fun c O=>?_,fun c u U=>?_⟩)
        · by_cases e:c=ys[j].Col
          · subst e; rw [BG,V,←hcur,hw]; rfl
          · rw [BB e,hFs,if_neg e]; exact D.1 c O
        · by_cases e:c=ys[j].Col
          · subst e; rw [BG] at U; cases U; exact MW _ _ _
          · rw [BB e] at U; exact D.2 c u U
   · dsimp only
     refine A0 (fun h=>by simp at h) (fun _=>hn _ ⟨fun c O=>?_,D.2⟩)
     rw [D.1 c O,GO hk]
     show F ys.length c=List.foldl (M7 r (gU B c)) none ((xs.take k).map PU++[PU xs[k]])
     rw [List.foldl_append]
     show (match WZ ((ys.take ys.length).map PU) c with | some b=>_ | none=>_)=M7 r (gU B c) _ (PU xs[k])
     rw [List.take_length,←Y c]
     unfold M7
     simp only [PU]
     all_goals (split <;> simp_all)
 · dsimp only
   rw [List.take_length] at hm
   exact A0 (fun h=>by simp at h) (fun _=>hQ m hm)
def bN (r ra ca rb cb h cm:Int) (A B M:List A3):List AB×Int:=
 if ¬(1≤r∧r≤5) then ([],8) else if ca≠rb∨h≠ra∨cm≠cb then ([],4) else (FT r A B M,0)
theorem vJ (r:Int) (A B M:List A3):(FT r A B M).length≤M.length:=List.length_filterMap_le _ _
theorem yN {T:List A3} {i lo hi:Nat} (s:Seg T i lo hi):T.take hi=T.take lo++JY T i:=by
 have h:=List.take_append_drop lo (T.take hi)
 rw [s.eq,List.take_take,Nat.min_eq_left s.le] at h
 exact h.symm
theorem gV {r ra ca rb cb O cm:Int} {A B M:List A3} {Q:List AB×Int→Prop} (hA:Canon ra ca A) (hB:Canon rb cb B) (U:Canon O cm M) (hvA:∀ t∈A,GN t.Val) (hvB:∀ t∈B,GN t.Val)
   (hQ:Q (bN r ra ca rb cb O cm A B M)):QD r (B0 ra ca A) (B0 rb cb B) (B0 O cm M) Q:=by
 unfold QD
 refine lH (by simp) (fun a ha=>?_) (A9 (by omega) rfl (A9 (by omega) rfl (A9 (by omega) rfl (LW ?_))))
 · simp only [List.mem_cons,List.not_mem_nil,or_false] at ha
   rcases ha with rfl | rfl | rfl
   · exact ⟨hA.sml,hA.right⟩
   · exact ⟨hB.sml,hB.right⟩
   · exact ⟨U.sml,U.right⟩
 unfold bN at hQ
 refine CF (fun h=>?_) (fun h=>?_)
 · rwa [if_pos (of_decide_eq_false h)] at hQ
 have hr:=of_decide_eq_true h
 rw [if_neg (fun h=>h hr)] at hQ
 have hbad (hb:ca≠rb∨O≠ra∨cm≠cb):Q ([],4):=by rwa [if_pos hb] at hQ
 refine CK (fun h=>hbad (.inl h)) (fun h1=>CK (fun h=>hbad (.inr (.inl h))) (fun h2=>CK (fun h=>hbad (.inr (.inr h))) (fun h3=>?_)))
 have h1:ca=rb:=h1
 have h2:O=ra:=h2
 have h3:cm=cb:=h3
 rw [if_neg (by omega)] at hQ
 have hrm:=U.r0; have hrm1:=U.r1; have hMl:=U.len
 obtain ⟨n,hn⟩:∃ n:Nat,O=(n:Int):=⟨O.toNat,by omega⟩
 have hR:(B0 O cm M).Rows=(n:Int):=hn
 rw [hR]
 refine B2 (fun (s:List AB) i=>(s,i)) 0 n (by omega) (fun i s=>s=(M.take (E6 M i).toNat).filterMap (G4 r A B)) (by omega) (by rw [TP (fun t ht=>(U.inn t ht).1)]; rfl) (fun i s next _ hi Y hnx=>?_) (fun s next Y=>?_)
 · subst Y
   dsimp only
   obtain ⟨lo,hi',sg⟩:=U.seg i
   have hlo:=sg.lo; have hhi:=sg.hi; have hle:=sg.le; have hlen:=sg.len
   have htk:=yN sg
   rw [show (E6 M i).toNat=lo by omega]
   have J:=hnx ((M.take lo).filterMap (G4 r A B)++(JY M i).filterMap (G4 r A B)) (by rw [show (E6 M (i+1)).toNat=hi' by omega,htk,List.filterMap_append])
   clear hnx
   have V:∀ t∈JY M i,t.Row=(i:Int):=fun t ht=>of_decide_eq_true (List.mem_filter.1 ht).2
   have hout:((M.take lo).filterMap (G4 r A B)).length≤65536:=by
     have:=List.length_filterMap_le (G4 r A B) (M.take lo)
     rw [List.length_take] at this; omega
   have hsl:=NU M i
   refine A0 (fun _=>TS U (by omega) ?_) (fun h=>by omega)
   generalize (M.take lo).filterMap (G4 r A B)=out at J hout ⊢
   generalize JY M i=xs at J V hsl ⊢
   refine B2 (fun (s:List (Int×Bool)) k=>(s,k)) 0 xs.length (by omega) (fun k m=>∀ q (hq:q<xs.length),q<k→BK xs[q].Col m=some true) (by omega) (fun q hq h=>by omega) (fun k m nx _ hk Y hnk=>?_) (fun m nx Y=>?_)
   · dsimp only
     refine A0 (fun _=>A9 (by omega) (x:=xs[k].Col) (by simp [hk]) (hnk _ fun q hq hqk=>?_)) (fun h=>by simp at h; omega)
     by_cases e:xs[q].Col=xs[k].Col
     · rw [e,BG]
     · rw [BB e]
       refine Y q hq ?_
       by_cases e2:q=k
       · subst e2; exact absurd rfl e
       · omega
   · dsimp only
     refine A0 (fun h=>by simp at h) (fun _=>?_)
     refine oJ hA hB (by omega) (by omega) hr hvA hvB fun sums Z=>?_
     refine B2 (fun (s:List AB) k=>(s,k)) 0 xs.length (by omega) (fun k s=>s=out++(xs.take k).filterMap (G4 r A B)) (by omega) (by simp) (fun k s ny _ hk hm2 hny=>?_) (fun s ny hm2=>?_)
     · subst hm2
       dsimp only
       have hlk:=List.length_filterMap_le (G4 r A B) (xs.take k)
       rw [List.length_take] at hlk
       have hask:=Y k hk hk
       have W:=Z.1 xs[k].Col (by simp only [hask]; rfl)
       have D:G4 r A B xs[k]=(KY r A B i xs[k].Col).map fun w=>⟨(i:Int),xs[k].Col,w⟩:=by
         unfold G4; rw [V _ (List.getElem_mem hk)]
       have G:(xs.take (k+1)).filterMap (G4 r A B)=(xs.take k).filterMap (G4 r A B)++(G4 r A B xs[k]).toList:=by
         rw [List.take_succ_eq_append_getElem hk,List.filterMap_append]
         congr 1
       refine A0 (fun _=>A9 (by omega) (x:=xs[k].Col) (by simp [hk]) (Y3 (fun w hw=>?_) (fun hw=>?_))) (fun h=>by simp at h; omega)
       · refine AY rfl (AR (by simp; omega) (hny _ ?_))
         rw [G,D,←W,hw,List.append_assoc]; rfl
       · refine AC rfl (hny _ ?_)
         rw [G,D,←W,hw]; simp
     · subst hm2
       dsimp only
       rw [List.take_length]
       exact A0 (fun h=>by simp at h) (fun _=>J)
 · subst Y
   dsimp only
   refine A0 (fun h=>by omega) (fun _=>?_)
   have:=WO U
   rw [show O.toNat=n by omega] at this
   rw [this,Int.toNat_natCast,List.take_length]
   exact hQ
theorem Ab6 (B:List A3) {k c:Int} (hk:0≤k):oA B k c=AdP (gU B c k):=by
 unfold oA gU dK JY
 induction B with
 | nil=>rfl
 | cons t B D=>
  rw [List.find?_cons,List.filter_cons]
  by_cases h1:t.Row=k
  · rw [show decide (t.Row=((k.toNat:Nat):Int))=true from decide_eq_true (by omega)]
    by_cases h2:t.Col=c
    · rw [show decide (key t=(k,c))=true from decide_eq_true (by unfold key; rw [h1,h2])]
      simp [KX,PU,h2,AdP]
    · rw [show decide (key t=(k,c))=false from decide_eq_false (fun h=>h2 (by unfold key at h; simp_all))]
      simp only [if_true,List.map_cons,KX,PU]
      rw [if_neg (fun h=>h2 h.symm)]
      exact D
  · rw [show decide (t.Row=((k.toNat:Nat):Int))=false from decide_eq_false (by omega),show decide (key t=(k,c))=false from decide_eq_false (fun h=>h1 (by unfold key at h; simp_all))]
    exact D
theorem lJ {r ra ca rb cb rm cm:Int} {A B M:List A3} {Q:List AB×Int→Prop} (hA:Canon ra ca A) (hB:Canon rb cb B) (W:Canon rm cm M) (hvA:∀ t∈A,GN t.Val) (hvB:∀ t∈B,GN t.Val)
   (Y:Q (bN r ra ca rb cb rm cm A B M)):OI r (B0 ra ca A) (B0 rb cb B) (B0 rm cm M) Q:=by
 unfold OI
 refine M6 hA.sml ?_
 rw [D8 hA]
 refine M6 hB.sml ?_
 rw [D8 hB]
 refine M6 W.sml ?_
 rw [D8 W]
 unfold bN at Y
 refine M5 (CF (fun h=>?_) (fun h=>?_))
 · rwa [if_pos (of_decide_eq_false h)] at Y
 have hr:=of_decide_eq_true h
 rw [if_neg (fun h=>h hr)] at Y
 have hbad (Z:ca≠rb∨rm≠ra∨cm≠cb):Q ([],4):=by rwa [if_pos Z] at Y
 refine CK (fun h=>hbad (.inl h)) (fun h1=>CK (fun h=>hbad (.inr (.inl h))) (fun h2=>CK (fun h=>hbad (.inr (.inr h))) (fun h3=>?_)))
 have h1:ca=rb:=h1
 have h2:rm=ra:=h2
 have h3:cm=cb:=h3
 rw [if_neg (by omega)] at Y
 have hMl:=W.len; have hAl:=hA.len; have hAr:=hA.r1
 refine MV W.sml (D8 W) W ?_
 refine B2 (fun (s:List AB) i=>(s,i)) 0 M.length (by omega) (fun i s=>s=(M.take i).filterMap (G4 r A B)) (by omega) rfl (fun i s next _ hi hm J=>?_) (fun s next hm=>?_)
 · subst hm
   dsimp only
   have hin:=W.inn _ (List.getElem_mem hi)
   unfold RC at hin
   have hlk:=List.length_filterMap_le (G4 r A B) (M.take i)
   rw [List.length_take] at hlk
   have V:(M.take (i+1)).filterMap (G4 r A B)=(M.take i).filterMap (G4 r A B)++(G4 r A B M[i]).toList:=by
     rw [List.take_succ_eq_append_getElem hi,List.filterMap_append]
     congr 1
   rw [V] at J
   generalize (M.take i).filterMap (G4 r A B)=out at J hlk ⊢
   refine A0 (fun _=>AK hi ?_) (fun h=>by omega)
   have D:∀ {K:A3→Prop},K M[i]→AN M (i:Int) K:=fun hK=>AK hi hK
   generalize M[i]=t at hin J D ⊢
   obtain ⟨n,hn⟩:∃ n:Nat,t.Row=(n:Int):=⟨t.Row.toNat,by omega⟩
   obtain ⟨lo,hi',sg⟩:=hA.seg n
   have hlo:=sg.lo; have hhi:=sg.hi; have hle:=sg.le; have hlen:=sg.len
   rw [hn]
   refine FY (by omega) ?_
   rw [hlo]
   have e1:A7 ((n:Int)+1)=(n+1:Nat):=by rw [AJ (by omega) (by omega)]; omega
   refine B2 (s0:=(none:Option AL)) (fun (s:Option AL) k=>((s.getD ⟨0,0⟩).Hi,(s.getD ⟨0,0⟩).Lo,s.isSome,k)) lo hi' (by omega) (fun p acc=>acc=(((A.take p).drop lo).map PU).foldl (M7 r (gU B t.Col)) none) (by omega) (by rw [List.drop_eq_nil_of_le (by rw [List.length_take]; omega)]; rfl) (fun p acc nx h4 h5 G U=>?_) (fun acc nx G=>?_)
   · dsimp only
     refine D ?_
     rw [hn,e1]
     refine FY (by omega) ?_
     rw [hhi]
     have O:p<A.length:=by omega
     have hat:0≤A[p].Col:=(hA.inn _ (List.getElem_mem O)).2.2.1
     have hokA:∀ w,acc=some w→LI w:=fun w hw=>by rw [G] at hw; exact bL r _ _ none (fun _ h=>by cases h) w hw
     have hstp:(((A.take (p+1)).drop lo).map PU).foldl (M7 r (gU B t.Col)) none=M7 r (gU B t.Col) acc (PU A[p]):=by
      rw [nZ h4 O,List.map_append,List.foldl_append,←G]; rfl
     rw [hstp] at U
     refine A0 (fun _=>A9 (by omega) (x:=A[p].Col) (by simp [B0,O]) (D (eZ hB.sml (D8 hB) hB ?_))) (fun h=>by omega)
     rw [Ab6 B hat]
     cases Z:gU B t.Col A[p].Col with
     | none=>
      refine AY rfl ?_
      have:=U acc (rI (y:=PU A[p]) Z).symm
      exact this
     | some x=>
      have hx:GN x:=by
       unfold gU dK at Z
       have:=lF Z
       obtain ⟨u,hu,he⟩:=List.mem_map.1 this
       have hv:=hvB u (List.mem_filter.1 hu).1
       unfold PU at he
       simp only [CN.mk.injEq] at he
       rw [←he.2]; exact hv
      refine AC rfl (A9 (by omega) (x:=A[p].Val) (by simp [B0,O]) (lE (hvA _ (List.getElem_mem O)) hx ?_))
      have hs:=vI (r:=r) (acc:=acc) (y:=PU A[p]) Z
      cases hac:acc with
      | none=>
       rw [hac] at hs
       refine AC rfl ?_
       exact U (some (Y7 r A[p].Val x)) (by rw [hac,hs]; rfl)
      | some w=>
       rw [hac] at hs
       refine AY rfl (TL (hokA w hac) (MW _ _ _) ?_)
       exact U (some (F6 r w (Y7 r A[p].Val x))) (by rw [hac,hs]; rfl)
   · dsimp only
     refine D ?_
     rw [hn,e1]
     refine FY (by omega) ?_
     rw [hhi]
     refine A0 (fun h=>by omega) (fun _=>?_)
     have hw:acc=KY r A B t.Row t.Col:=by
      rw [G,sg.eq]
      unfold KY dK
      rw [hn]; rfl
     have hc:G4 r A B t=acc.map fun w=>⟨t.Row,t.Col,w⟩:=by unfold G4; rw [←hw]
     cases hac:acc with
     | none=>
      refine AC rfl (J _ ?_)
      rw [hc,hac]; simp
     | some w=>
      refine AY rfl (D (D (AR (by simp; omega) (J _ ?_))))
      rw [hc,hac]; rfl
 · subst hm
   dsimp only
   rw [List.take_length]
   exact A0 (fun h=>by omega) (fun _=>Y)
theorem lK {xs ys:List AB} {Q:Bool→Prop} (J:xs.length≤1000000000000) (he:xs=ys) (D:Q true):LH xs ys Q:=by
 subst he
 unfold LH
 refine CK (fun h=>absurd rfl h) (fun _=>?_)
 refine D7 xs.length J (fun _=>True) trivial (fun i next hi _ G=>?_) (fun next _=>?_)
 · exact A0 (fun _=>AK hi (AK hi (AC (by simp) (G trivial)))) (fun h=>by omega)
 · exact A0 (fun h=>by omega) (fun _=>D)
def SJ (a b:AB):Prop:=MF (a.Row,a.Col) (b.Row,b.Col)
structure cQ (rows cols:Int) (l:List AB):Prop where
 inc:l.Pairwise SJ
 inn:∀ c∈l,(0≤c.Row∧c.Row<rows)∧(0≤c.Col∧c.Col<cols)
 ok:∀ c∈l,LI c.Val
 len:l.length≤65536
theorem dW {r ra ca rb cb W cm:Int} {A B M:List A3} (V:Canon W cm M):cQ W cm (FT r A B M):=by
 have G:∀ c∈FT r A B M,∃ t∈M,c.Row=t.Row∧c.Col=t.Col∧LI c.Val:=fun c D=>by
   obtain ⟨t,O,he⟩:=List.mem_filterMap.1 D
   unfold G4 at he
   cases hw:KY r A B t.Row t.Col with
   | none=>rw [hw] at he; cases he
   | some w=>rw [hw] at he; cases he; exact ⟨t,O,rfl,rfl,bL r _ _ none (fun _ h=>by cases h) w hw⟩
 refine ⟨?_,fun c D=>?_,fun c D=>?_,Nat.le_trans (vJ r A B M) V.len⟩
 · refine List.Pairwise.filterMap _ (fun a b U c D d J=>?_) V.srt
   unfold G4 at D J
   cases hw:KY r A B a.Row a.Col with
   | none=>rw [hw] at D; cases D
   | some w=>
    cases hu:KY r A B b.Row b.Col with
    | none=>rw [hu] at J; cases J
    | some u=>rw [hw] at D; rw [hu] at J; cases D; cases J; exact U
 · obtain ⟨t,O,h1,h2,_⟩:=G c D
   have:=V.inn t O
   unfold RC at this
   omega
 · obtain ⟨t,_,_,_,h⟩:=G c D; exact h
theorem RV (x y:AB):uV (QJ x.Row y.Row) (QJ x.Col y.Col)<0↔SJ x y:=by
 unfold SJ MF uV QJ
 simp only
 split <;> split <;> (try split) <;> omega
theorem S6 {x y:AB} {Q:Int→Prop} (h:Q (uV (QJ x.Row y.Row) (QJ x.Col y.Col))):QE x y Q:=by
 unfold QE
 exact H0 (H0 (iS h))
theorem gW {l:List AB} {Q:Bool→Prop} (hl:l.length≤1000000) (h:l.Pairwise SJ) (G:Q true):JO l Q:=by
 unfold JO
 refine D7 l.length (by omega) (fun _=>True) trivial (fun i next hi _ D=>?_) (fun next _=>?_)
 · refine A0 (fun _=>A0 (fun hp=>?_) (fun _=>D trivial)) (fun h=>by omega)
   have e:A7 ((i:Int) - 1)=((i - 1:Nat):Int):=by rw [AJ (by omega) (by omega)]; omega
   rw [e]
   refine AK (by omega) (AK hi (S6 (A0 (fun h0=>?_) (fun _=>D trivial))))
   have h1:=(RV l[i - 1] l[i]).2 (List.pairwise_iff_getElem.1 h (i - 1) i (by omega) hi (by omega))
   omega
 · exact A0 (fun h=>by omega) (fun _=>G)
theorem lL {l:List AB} {Q:Bool→Prop} (hl:l.length≤1000000) (h:l.Pairwise SJ) (G:Q true):JT l Q:=by
 unfold JT
 by_cases h0:l.length=0
 · refine ⟨1,?_⟩
   exact A0 (fun h=>by omega) (fun _=>G)
 refine B2 (σ:=Unit) (fun _ i=>i) 1 l.length (by omega) (fun _ _=>True) (by omega) trivial (fun i s next h1 hi _ J=>?_) (fun s next _=>?_) (s0:=())
 · refine A0 (fun _=>?_) (fun h=>by omega)
   have e:A7 ((i:Int) - 1)=((i - 1:Nat):Int):=by rw [AJ (by omega) (by omega)]; omega
   rw [e]
   refine AK (by omega) (AK hi ?_)
   have D:SJ l[i - 1] l[i]:=List.pairwise_iff_getElem.1 h (i - 1) i (by omega) hi (by omega)
   unfold SJ MF at D
   simp only at D
   unfold JS
   refine A0 (fun _=>AC rfl (J () trivial)) (fun h3=>BA (fun U=>CF (fun O=>?_) (fun _=>J () trivial)) (fun U=>?_))
   · have:=of_decide_eq_false O; omega
   · omega
 · exact A0 (fun h=>by omega) (fun _=>G)
def qG (r:Int) (c:AB):Option A3:=if (ME c.Val).1≠zS r then some ⟨c.Row,c.Col,(ME c.Val).1⟩ else none
def QN (r rows cols:Int) (l:List AB):Rows×Int:=if l.all (fun c=>(ME c.Val).2) then wO r rows cols (l.filterMap (qG r)) else (zR,12)
theorem yO (a:AL):GN (ME a).1:=by
 unfold ME GN
 split
 · rw [G6]; omega
 · simp
theorem lM {r:Int} {l:List AB}:∀ t∈l.filterMap (qG r),GN t.Val:=fun t h=>by
 obtain ⟨c,_,he⟩:=List.mem_filterMap.1 h
 unfold qG at he
 split at he
 · cases he; exact yO _
 · cases he
theorem iY {r:Int} {l:List AB} {i:Nat} (hi:i<l.length):(l.take (i+1)).filterMap (qG r)=(l.take i).filterMap (qG r)++(qG r l[i]).toList:=by
 rw [List.take_succ_eq_append_getElem hi,List.filterMap_append]
 congr 1
theorem ZL {r rows cols:Int} {l:List AB} {Q:Rows×Int→Prop} (hr:1≤r∧r≤5) (h0:(0≤rows∧rows≤4096)∧(0≤cols∧cols≤4096)) (h:cQ rows cols l) (Z:Q (QN r rows cols l)):WJ r rows cols l Q:=by
 unfold WJ EC
 have hl:=h.len
 refine LW ?_
 rw [decide_eq_true hr]
 refine AC rfl ?_
 unfold JP
 refine A0 (fun _=>CF (fun Y=>by have:=of_decide_eq_false Y; omega) (fun _=>A0 (fun _=>?_) (fun h=>by omega))) (fun h=>by omega)
 dsimp only
 rw [show (!decide (cols≤4096))=false by simp; omega]
 refine AC rfl ?_
 have hk:JO l fun r155=>AD (!r155) (Q (zR,6)) (AD (decide (65536<(l.length:Int))) (Q (zR,5)) (B1 (fun (s:(List A3)×Int) (D:((List A3)×Int)→Prop)=>match s with | (s448,s452)=>AD (decide (s452<(l.length:Int))) (AN l s452 fun G=>M2 r G.Val fun J=>AD (!J.2) (Q (zR,12)) (SU r fun r496=>AD (J.1 != r496) (ED 24 s448 ([({ Row:=G.Row,Col:=G.Col,Val:=J.1 }:A3)]) fun _=>D ((s448++([({ Row:=G.Row,Col:=G.Col,Val:=J.1 }:A3)])),A7 (s452+1))) (D (s448,A7 (s452+1))))) (QC r rows cols s448 fun O=>Q (O.1,O.2))) (([]:List A3),0))):=by
   refine gW (by omega) h.inc (AC rfl (A0 (fun h=>by omega) (fun _=>?_)))
   refine B2 (fun (s:List A3) i=>(s,i)) 0 l.length (by omega) (fun i s=>s=(l.take i).filterMap (qG r)∧∀ q (W:q<l.length),q<i→(ME l[q].Val).2=true) (by omega) ⟨rfl,fun q W h=>by omega⟩ (fun i s next _ hi hm Y=>?_) (fun s next hm=>?_)
   · obtain ⟨rfl,V⟩:=hm
     have hst:=iY (r:=r) hi
     have hlk:=List.length_filterMap_le (qG r) (l.take i)
     rw [List.length_take] at hlk
     refine A0 (fun _=>AK hi (iU (h.ok _ (List.getElem_mem hi)) ?_)) (fun h=>by omega)
     cases hb:(ME l[i].Val).2 with
     | false=>
      refine AY rfl ?_
      unfold QN at Z
      rw [if_neg (fun ha=>by have:=List.all_eq_true.1 ha l[i] (List.getElem_mem hi); rw [hb] at this; cases this)] at Z
      exact Z
     | true=>
      have U:∀ q (W:q<l.length),q<i+1→(ME l[q].Val).2=true:=fun q W hqi=>by
        by_cases e:q=i
        · subst e; exact hb
        · exact V q W (by omega)
      refine AC rfl (lG (CK (fun hz=>AR (by simp; omega) (Y _ ⟨?_,U⟩)) (fun hz=>Y _ ⟨?_,U⟩)))
      · rw [hst]; unfold qG; rw [if_pos hz]; rfl
      · rw [hst]; unfold qG; rw [if_neg (fun h=>h hz)]; simp
   · obtain ⟨rfl,V⟩:=hm
     refine A0 (fun h=>by omega) (fun _=>?_)
     rw [List.take_length]
     have hlk:=List.length_filterMap_le (qG r) l
     unfold QN at Z
     rw [if_pos (List.all_eq_true.2 fun c hc=>by obtain ⟨q,W,rfl⟩:=List.getElem_of_mem hc; exact V q W W)] at Z
     exact xS (by omega) lM Z
 unfold D2 DH OW JP
 have e1:A7 (rows - 1)=rows - 1:=AJ (by omega) (by omega)
 have e2:A7 (cols - 1)=cols - 1:=AJ (by omega) (by omega)
 rw [e1,e2]
 refine D7 l.length (by omega) (fun _=>True) trivial (fun i next hi _ Y=>?_) (fun next _=>?_)
 · have hc:=h.inn _ (List.getElem_mem hi)
   refine A0 (fun _=>AK hi (A0 (fun _=>CF (fun hb=>by have:=of_decide_eq_false hb; omega) (fun _=>A0 (fun _=>?_) (fun h=>by omega))) (fun h=>by omega))) (fun h=>by omega)
   dsimp only
   rw [show (!decide ((l[i]).Col≤cols - 1))=false by simp; omega]
   exact AC rfl (Y trivial)
 · exact A0 (fun h=>by omega) (fun _=>AC (by decide) hk)
theorem oK {r rows cols:Int} {l:List AB} {Q:Rows×Int→Prop} (hr:1≤r∧r≤5) (h0:(0≤rows∧rows≤4096)∧(0≤cols∧cols≤4096)) (h:cQ rows cols l) (O:Q (QN r rows cols l)):TH r rows cols l Q:=by
 unfold TH
 have hl:=h.len
 refine M5 ?_
 rw [decide_eq_true hr]
 refine AC rfl (A0 (fun h=>by omega) (fun _=>A0 (fun h=>by omega) (fun _=>A0 (fun h=>by omega) (fun _=>A0 (fun h=>by omega) (fun _=>?_)))))
 refine D7 l.length (by omega) (fun _=>True) trivial (fun i next hi _ W=>?_) (fun next _=>?_)
 · have hc:=h.inn _ (List.getElem_mem hi)
   exact A0 (fun _=>AK hi (A0 (fun h=>by omega) (fun _=>AK hi (A0 (fun h=>by omega) (fun _=>AK hi (A0 (fun h=>by omega) (fun _=>AK hi (A0 (fun h=>by omega) (fun _=>W trivial))))))))) (fun h=>by omega)
 refine A0 (fun h=>by omega) (fun _=>lL (by omega) h.inc (AC rfl (A0 (fun h=>by omega) (fun _=>?_))))
 refine B2 (fun (s:List A3) i=>(s,i)) 0 l.length (by omega) (fun i s=>s=(l.take i).filterMap (qG r)∧∀ q (J:q<l.length),q<i→(ME l[q].Val).2=true) (by omega) ⟨rfl,fun q J h=>by omega⟩ (fun i s next _ hi Y W=>?_) (fun s next Y=>?_)
 · obtain ⟨rfl,G⟩:=Y
   have V:=iY (r:=r) hi
   have U:=List.length_filterMap_le (qG r) (l.take i)
   rw [List.length_take] at U
   refine A0 (fun _=>AK hi (UF (h.ok _ (List.getElem_mem hi)) ?_)) (fun h=>by omega)
   cases hb:(ME l[i].Val).2 with
   | false=>
    refine AY rfl ?_
    unfold QN at O
    rw [if_neg (fun ha=>by have:=List.all_eq_true.1 ha l[i] (List.getElem_mem hi); rw [hb] at this; cases this)] at O
    exact O
   | true=>
    have D:∀ q (J:q<l.length),q<i+1→(ME l[q].Val).2=true:=fun q J hqi=>by
      by_cases e:q=i
      · subst e; exact hb
      · exact G q J (by omega)
    refine AC rfl (gT (CK (fun Z=>AK hi (AK hi (AR (by simp; omega) (W _ ⟨?_,D⟩)))) (fun Z=>W _ ⟨?_,D⟩)))
    · rw [V]; unfold qG; rw [if_pos Z]; rfl
    · rw [V]; unfold qG; rw [if_neg (fun h=>h Z)]; simp
 · obtain ⟨rfl,G⟩:=Y
   refine A0 (fun h=>by omega) (fun _=>?_)
   rw [List.take_length]
   have U:=List.length_filterMap_le (qG r) l
   unfold QN at O
   rw [if_pos (List.all_eq_true.2 fun c hc=>by obtain ⟨q,J,rfl⟩:=List.getElem_of_mem hc; exact G q J J)] at O
   exact PT (by omega) lM O
theorem fC {x:Int} {Q:Int→Prop} (h:UC .u8 x) (D:∀ n:Int,0≤n→n≤13→Q n):M3 x Q:=by
 unfold M3
 have hb:=bounds_u8 h
 refine D _ ?_ ?_
 · rw [Int.tmod_eq_emod_of_nonneg (by omega)]; omega
 · rw [Int.tmod_eq_emod_of_nonneg (by omega)]; omega
theorem fD {n:Int} (h0:0≤n) (h1:n≤13):JC n=n:=by unfold JC; omega
theorem yP {a:GV} {Q:Rows×Rows×Rows→Prop} (U:UC .u8 a.Size.1∧UC .u8 a.Size.2.1∧UC .u8 a.Size.2.2) (h1:∀ t∈a.A,KT t) (h2:∀ t∈a.B,KT t) (h3:∀ t∈a.M,KT t)
  (hQ:∀ n k m A B M,(0≤n∧n≤13)→(0≤k∧k≤13)→(0≤m∧m≤13)→Canon n k A→Canon k m B→Canon n m M→(∀ t∈A,GN t.Val)→(∀ t∈B,GN t.Val)→(∀ t∈M,GN t.Val)→Q (B0 n k A,B0 k m B,B0 n m M)):K9 a Q:=by
 unfold K9
 refine fC U.1 fun n D O=>fC U.2.1 fun k J G=>fC U.2.2 fun m m0 h=>?_
 refine bM ⟨PW D (Int.le_trans O (by decide)),PW J (Int.le_trans G (by decide))⟩ h1 fun A V vA=>bM ⟨PW J (Int.le_trans G (by decide)),PW m0 (Int.le_trans h (by decide))⟩ h2 fun B W vB=>bM ⟨PW D (Int.le_trans O (by decide)),PW m0 (Int.le_trans h (by decide))⟩ h3 fun M Y Z=>?_
 simp only [fD D O,fD J G,fD m0 h] at V W Y ⊢
 exact hQ n k m A B M ⟨D,O⟩ ⟨J,G⟩ ⟨m0,h⟩ V W Y vA vB Z
theorem oL {rows cols:Int} {T:List A3} (h:Canon rows cols T) {i j a:Int} (hi:0≤i):WZ (dK T i) j=some a↔(⟨i,j,a⟩:A3)∈T:=by
 unfold dK
 rw [Ab4 (lI h.srt i.toNat),List.mem_map]
 unfold JY
 constructor
 · rintro ⟨t,D,he⟩
   obtain ⟨O,G⟩:=List.mem_filter.1 D
   have J:=of_decide_eq_true G
   unfold PU at he
   obtain ⟨U,tc,tv⟩:=t
   simp only [CN.mk.injEq] at he J
   obtain ⟨rfl,rfl⟩:=he
   rw [show i=U by omega]
   exact O
 · intro D
   exact ⟨_,List.mem_filter.2 ⟨D,by simp; omega⟩,rfl⟩
theorem SY {r rows cols:Int} {A B:List A3} (h:Canon rows cols A) {i:Int} (hi:0≤i) (c:Int):KY r A B i c=Y8 r cols.toNat (WZ (dK A i)) (gU B c):=by
 unfold KY
 refine yF (lI h.srt _) (fun x G=>?_)
 obtain ⟨t,D,rfl⟩:=List.mem_map.1 G
 have:=h.inn t (List.mem_filter.1 D).1
 unfold RC at this
 unfold PU
 dsimp only
 omega
theorem V9 {α β:Type} {f g:α→Option β}:∀ {l:List α},(∀ x∈l,f x=g x)→l.filterMap f=l.filterMap g
 | [],_=>rfl
 | x :: l,h=>by rw [List.filterMap_cons,List.filterMap_cons,h x (by simp),V9 fun y D=>h y (List.mem_cons_of_mem _ D)]
def XK (i m:Nat):List A3:=(List.range m).map fun j:Nat=>(⟨i,j,1⟩:A3)
def SZ (n m:Nat):List A3:=(List.range n).flatMap fun i:Nat=>XK i m
theorem rJ (i m:Nat):XK i (m+1)=XK i m++[⟨i,m,1⟩]:=by unfold XK; rw [List.range_succ,List.map_append]; rfl
theorem fE (n m:Nat):SZ (n+1) m=SZ n m++XK n m:=by unfold SZ; rw [List.range_succ,List.flatMap_append]; simp
theorem bO (m:Nat):∀ n:Nat,(SZ n m).length=n*m
 | 0=>by simp [SZ]
 | n+1=>by rw [fE,List.length_append,bO m n,XK,List.length_map,List.length_range,Nat.succ_mul]
theorem bP {n m:Nat} {t:A3} (h:t∈SZ n m):RC n m t∧t.Val=1:=by
 obtain ⟨i,hi,h⟩:=List.mem_flatMap.1 h
 obtain ⟨j,D,rfl⟩:=List.mem_map.1 h
 rw [List.mem_range] at hi D
 unfold RC
 refine ⟨⟨?_,?_,?_,?_⟩,rfl⟩ <;> dsimp only <;> omega
theorem cR {n m:Nat} (hn:n≤200) (hm:m≤200):Canon n m (SZ n m) where
 r0:=by omega
 r1:=by omega
 c0:=by omega
 c1:=by omega
 len:=by
  rw [bO]
  have:=Nat.mul_le_mul hn hm
  omega
 srt:=by
  unfold Srt SZ
  rw [List.pairwise_flatMap]
  refine ⟨fun i _=>?_,?_⟩
  · unfold XK
    rw [List.pairwise_map]
    refine List.Pairwise.imp (fun {a b} hab=>?_) (List.pairwise_lt_range (n:=m))
    unfold MF key
    dsimp only
    omega
  · refine List.Pairwise.imp (fun {a b} hab x hx y hy=>?_) (List.pairwise_lt_range (n:=n))
    obtain ⟨u,hu,rfl⟩:=List.mem_map.1 hx
    obtain ⟨v,hv,rfl⟩:=List.mem_map.1 hy
    unfold MF key
    dsimp only
    omega
 inn t ht:=(bP ht).1
end Go.Proofs.YtbohadngdkjljaaGreat
