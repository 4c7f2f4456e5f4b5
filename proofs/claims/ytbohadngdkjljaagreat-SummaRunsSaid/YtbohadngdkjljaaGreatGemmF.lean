import Derived.Test.YtbohadngdkjljaaGreatPushJ
namespace Go.Proofs.YtbohadngdkjljaaGreat
open Go Go.Fw
set_option linter.unusedVariables false
set_option linter.unusedSimpArgs false
def hZ (B:List A1) (c:Int) (k:Int):Option Int:=XA (dV B k) c
def KY (r:Int) (A B:List A1) (i c:Int):Option AL:=(dV A i).foldl (M2 r (hZ B c)) none
def G1 (r:Int) (A B:List A1) (t:A1):Option AB:=(KY r A B t.Row t.Col).map fun w=>⟨t.Row,t.Col,w⟩
def FQ (r:Int) (A B M:List A1):List AB:=M.filterMap (G1 r A B)
theorem U1 {rows cols:Int} {D:List A1} {i:Nat} {Q:List Int×List Int→Prop} (h:Canon rows cols D) (hi:(i:Int)<rows) (O:Q ((JZ D i).map (·.Col),(JZ D i).map (·.Val))):PS (B0 rows cols D) i Q:=by
 unfold PS
 have hr:=h.r1
 obtain ⟨lo,G,s⟩:=h.seg i
 have J:A7 ((i:Int)+1)=(i+1:Nat):=by rw [AH (by omega) (by omega)]; omega
 rw [J]
 refine FU (by omega) (FU (by omega) ?_)
 rw [s.lo,s.hi]
 have h1:=s.le; have h2:=s.len
 have hc:(B0 rows cols D).Col.length=D.length:=by simp [B0]
 have hv:(B0 rows cols D).Val.length=D.length:=by simp [B0]
 refine ⟨by omega,by omega,by omega,by omega,by omega,by omega,?_⟩
 simp only [Int.toNat_natCast,B0,←List.map_take,←List.map_drop,s.eq]
 exact O
theorem lL {l:List Rows} {Q:List Rows→Prop} (hl:l.length≤100) (h:∀ a∈l,II a∧G4 a) (J:Q l):WT l Q:=by
 unfold WT
 refine B3 (fun (s:List Rows) i=>(s,i)) 0 l.length (by omega) (fun i s=>s=l.take i) (by omega) rfl (fun i s next _ hi D O=>?_) (fun s next D=>?_)
 · subst D
   have G:=h _ (List.getElem_mem hi)
   refine A0 (fun _=>AJ hi (ZR G.1 ?_)) (fun h=>by omega)
   rw [decide_eq_true G.2]
   refine AC rfl (AQ (by simp; omega) (O _ ?_))
   rw [List.take_succ_eq_append_getElem hi]
 · subst D
   rw [List.take_length]
   exact A0 (fun h=>by omega) (fun _=>J)
theorem lM {G:List A1} (h:Srt G) (i:Nat):IncI ((JZ G i).map PV):=by
 unfold IncI JZ
 rw [List.pairwise_map]
 refine List.Pairwise.imp_of_mem ?_ (List.Pairwise.filter _ h)
 intro a b O J D
 have h1:=of_decide_eq_true (List.mem_filter.1 O).2
 have h2:=of_decide_eq_true (List.mem_filter.1 J).2
 unfold MA key at D
 simp only [PV]
 simp only at D
 omega
def yJ (m:List (Int×AL)) (h:Int→Bool) (f:Int→Option AL):Prop:=(∀ c,h c=true→BK c m=f c)∧∀ c w,BK c m=some w→LG w
theorem AcT {l:List (Int×Bool)} {k:Int} {C:Bool→Prop} (h:C ((BK k l).getD false)):wK l k false C:=K5 h
theorem rI {r:Int} {B:Int→Option Int} {acc:Option AL} {y:CO} (h:B y.At=none):M2 r B acc y=acc:=by unfold M2; rw [h]
theorem vH {r:Int} {B:Int→Option Int} {acc:Option AL} {y:CO} {x:Int} (h:B y.At=some x):M2 r B acc y=dU r acc (some (YK r y.Val x)):=by unfold M2; rw [h]
theorem oP {r ra ca rb cb:Int} {A B:List A1} {G:List (Int×Bool)} {i:Nat} {Q:List (Int×AL)→Prop} (hA:Canon ra ca A) (hB:Canon rb cb B) (hab:ca≤rb) (hi:(i:Int)<ra) (hr:1≤r∧r≤5) (hvA:∀ t∈A,GM t.Val) (hvB:∀ t∈B,GM t.Val)
   (hQ:∀ m,yJ m (fun c=>(BK c G).getD false) (KY r A B i)→Q m):PE G r (B0 ra ca A) (B0 rb cb B) i Q:=by
 unfold PE
 refine U1 hA hi ?_
 have hsl:=NO A i
 have hAl:=hA.len
 have hBl:=hB.len
 have hrow:∀ t∈JZ A i,(0≤t.Col∧t.Col<ca)∧GM t.Val:=fun t ht=>by
   have hm:=(List.mem_filter.1 ht).1
   have:=hA.inn t hm
   unfold RK at this
   exact ⟨⟨this.2.2.1,this.2.2.2⟩,hvA t hm⟩
 unfold KY at hQ
 rw [show dV A (i:Int)=(JZ A i).map PV from rfl] at hQ
 generalize JZ A i=xs at hQ hsl hrow
 refine B3 (fun (s:List (Int×AL)) k=>(s,k)) 0 xs.length (by omega) (fun k m=>yJ m (fun c=>(BK c G).getD false) fun c=>((xs.take k).map PV).foldl (M2 r (hZ B c)) none) (by omega) ⟨fun c _=>rfl,fun c w h=>by simp [BK] at h⟩ (fun k m next _ hk hm hn=>?_) (fun m next hm=>?_)
 · dsimp only
   have hx:=hrow _ (List.getElem_mem hk)
   refine A0 (fun _=>AA (by omega) (x:=xs[k].Col) (by simp [hk]) ?_) (fun h=>by simp at h; omega)
   obtain ⟨c0,hc0⟩:∃ c0:Nat,xs[k].Col=(c0:Int):=⟨xs[k].Col.toNat,by omega⟩
   rw [hc0]
   refine U1 hB (by omega) ?_
   have Z:=lM hB.srt c0
   have hsl2:=NO B c0
   have J:∀ t∈JZ B c0,GM t.Val:=fun t ht=>hvB t (List.mem_filter.1 ht).1
   have W:∀ c,hZ B c xs[k].Col=XA ((JZ B c0).map PV) c:=fun c=>by unfold hZ dV; rw [hc0]; rfl
   generalize JZ B c0=ys at Z hsl2 J W
   -- how it is behind so many of the row's items
   let F:Nat→Int→Option AL:=fun j c=>match XA ((ys.take j).map PV) c with
     | some b=>dU r (((xs.take k).map PV).foldl (M2 r (hZ B c)) none) (some (YK r xs[k].Val b))
     | none=>((xs.take k).map PV).foldl (M2 r (hZ B c)) none
   have hF0:F 0=fun c=>((xs.take k).map PV).foldl (M2 r (hZ B c)) none:=rfl
   refine B3 (fun (s:List (Int×AL)) j=>(s,j)) 0 ys.length (by omega) (fun j m=>yJ m (fun c=>(BK c G).getD false) (F j)) (by omega) (by rw [hF0]; exact hm) (fun j m' nx _ hj D hnx=>?_) (fun m' nx D=>?_)
   · dsimp only
     have htk:(ys.take (j+1)).map PV=(ys.take j).map PV++[PV ys[j]]:=GN hj
     have hFs:∀ c,F (j+1) c=if c=ys[j].Col then F (j+1) c else F j c:=fun c=>by
      by_cases e:c=ys[j].Col
      · rw [if_pos e]
      · rw [if_neg e]
        have:XA ((ys.take (j+1)).map PV) c=XA ((ys.take j).map PV) c:=by
          rw [htk,QN]
          have h0:XA [PV ys[j]] c=none:=ZT fun s hs=>by simp only [List.mem_singleton] at hs; subst hs; exact fun h=>e h.symm
          rw [h0]; split <;> simp_all
        show (match XA ((ys.take (j+1)).map PV) c with | some b=>_ | none=>_)=_
        rw [this]
     have V:XA ((ys.take j).map PV) ys[j].Col=none:=ZT fun s hs=>by
      obtain ⟨t,ht,rfl⟩:=List.mem_map.1 hs
      obtain ⟨q,hq,rfl⟩:=List.getElem_of_mem ht
      rw [List.length_take] at hq
      rw [List.getElem_take]
      have hlen:(ys.map PV).length=ys.length:=by simp
      have:=Z.at (i:=q) (j:=j) (by omega) (by omega)
      simp only [List.getElem_map] at this
      intro h
      simp only [PV] at this h
      omega
     have hold:F j ys[j].Col=((xs.take k).map PV).foldl (M2 r (hZ B ys[j].Col)) none:=by
      show (match XA ((ys.take j).map PV) ys[j].Col with | some b=>_ | none=>_)=_
      rw [V]
     have hhit:F (j+1) ys[j].Col=dU r (F j ys[j].Col) (some (YK r xs[k].Val ys[j].Val)):=by
      rw [hold]
      have:XA ((ys.take (j+1)).map PV) ys[j].Col=some ys[j].Val:=by rw [htk,QN,V]; simp [KX,PV]
      show (match XA ((ys.take (j+1)).map PV) ys[j].Col with | some b=>_ | none=>_)=_
      rw [this]
     have hy:=J _ (List.getElem_mem hj)
     refine A0 (fun _=>AA (by omega) (x:=ys[j].Col) (by simp [hj]) (AcT ?_)) (fun h=>by simp at h; omega)
     cases ha:(BK ys[j].Col G).getD false with
     | false=>
      refine AU rfl (hnx _ ⟨fun c O=>?_,D.2⟩)
      rw [hFs,if_neg (fun e=>by subst e; simp only at O; rw [ha] at O; cases O)]
      exact D.1 c O
     | true=>
      have Y:=D.1 ys[j].Col ha
      refine AC rfl (AA (by omega) (x:=xs[k].Val) (by simp [hk]) (AA (by omega) (x:=ys[j].Val) (by simp [hj]) (oK hx.2 hy (YG (fun w hw=>?_) (fun hw=>?_)))))
      · refine AU rfl (VG (D.2 _ _ hw) (MO _ _ _) (hnx _ ⟨fun c O=>?_,fun c u U=>?_⟩))
        · by_cases e:c=ys[j].Col
          · subst e; rw [BG,hhit,←Y,hw]; rfl
          · rw [BC e,hFs,if_neg e]; exact D.1 c O
        · by_cases e:c=ys[j].Col
          · subst e; rw [BG] at U; cases U; exact QL (D.2 _ _ hw) (MO _ _ _)
          · rw [BC e] at U; exact D.2 c u U
      · refine AC rfl (hnx _ ⟨fun c O=>?_,fun c u U=>?_⟩)
        · by_cases e:c=ys[j].Col
          · subst e; rw [BG,hhit,←Y,hw]; rfl
          · rw [BC e,hFs,if_neg e]; exact D.1 c O
        · by_cases e:c=ys[j].Col
          · subst e; rw [BG] at U; cases U; exact MO _ _ _
          · rw [BC e] at U; exact D.2 c u U
   · dsimp only
     refine A0 (fun h=>by simp at h) (fun _=>hn _ ⟨fun c O=>?_,D.2⟩)
     rw [D.1 c O,GN hk]
     show F ys.length c=List.foldl (M2 r (hZ B c)) none ((xs.take k).map PV++[PV xs[k]])
     rw [List.foldl_append]
     show (match XA ((ys.take ys.length).map PV) c with | some b=>_ | none=>_)=M2 r (hZ B c) _ (PV xs[k])
     rw [List.take_length,←W c]
     unfold M2
     simp only [PV]
     all_goals (split <;> simp_all)
 · dsimp only
   rw [List.take_length] at hm
   exact A0 (fun h=>by simp at h) (fun _=>hQ m hm)
def bX (r ra ca rb cb h cm:Int) (A B M:List A1):List AB×Int:=
 if ¬(1≤r∧r≤5) then ([],8) else if ca≠rb∨h≠ra∨cm≠cb then ([],4) else (FQ r A B M,0)
theorem vI (r:Int) (A B M:List A1):(FQ r A B M).length≤M.length:=List.length_filterMap_le _ _
theorem yK {T:List A1} {i lo hi:Nat} (s:Seg T i lo hi):T.take hi=T.take lo++JZ T i:=by
 have h:=List.take_append_drop lo (T.take hi)
 rw [s.eq,List.take_take,Nat.min_eq_left s.le] at h
 exact h.symm
theorem iA {r ra ca rb cb O cm:Int} {A B M:List A1} {Q:List AB×Int→Prop} (hA:Canon ra ca A) (hB:Canon rb cb B) (U:Canon O cm M) (hvA:∀ t∈A,GM t.Val) (hvB:∀ t∈B,GM t.Val)
   (hQ:Q (bX r ra ca rb cb O cm A B M)):QE r (B0 ra ca A) (B0 rb cb B) (B0 O cm M) Q:=by
 unfold QE
 refine lL (by simp) (fun a ha=>?_) (AA (by omega) rfl (AA (by omega) rfl (AA (by omega) rfl (JX ?_))))
 · simp only [List.mem_cons,List.not_mem_nil,or_false] at ha
   rcases ha with rfl | rfl | rfl
   · exact ⟨hA.sml,hA.right⟩
   · exact ⟨hB.sml,hB.right⟩
   · exact ⟨U.sml,U.right⟩
 unfold bX at hQ
 refine BN (fun h=>?_) (fun h=>?_)
 · rwa [if_pos (of_decide_eq_false h)] at hQ
 have hr:=of_decide_eq_true h
 rw [if_neg (fun h=>h hr)] at hQ
 have hbad (hb:ca≠rb∨O≠ra∨cm≠cb):Q ([],4):=by rwa [if_pos hb] at hQ
 refine CB (fun h=>hbad (.inl h)) (fun h1=>CB (fun h=>hbad (.inr (.inl h))) (fun h2=>CB (fun h=>hbad (.inr (.inr h))) (fun h3=>?_)))
 have h1:ca=rb:=h1
 have h2:O=ra:=h2
 have h3:cm=cb:=h3
 rw [if_neg (by omega)] at hQ
 have hrm:=U.r0; have hrm1:=U.r1; have hMl:=U.len
 obtain ⟨n,hn⟩:∃ n:Nat,O=(n:Int):=⟨O.toNat,by omega⟩
 have hR:(B0 O cm M).Rows=(n:Int):=hn
 rw [hR]
 refine B3 (fun (s:List AB) i=>(s,i)) 0 n (by omega) (fun i s=>s=(M.take (E5 M i).toNat).filterMap (G1 r A B)) (by omega) (by rw [TY (fun t ht=>(U.inn t ht).1)]; rfl) (fun i s next _ hi hm hnx=>?_) (fun s next hm=>?_)
 · subst hm
   dsimp only
   obtain ⟨lo,hi',sg⟩:=U.seg i
   have hlo:=sg.lo; have hhi:=sg.hi; have hle:=sg.le; have hlen:=sg.len
   have htk:=yK sg
   rw [show (E5 M i).toNat=lo by omega]
   have G:=hnx ((M.take lo).filterMap (G1 r A B)++(JZ M i).filterMap (G1 r A B)) (by rw [show (E5 M (i+1)).toNat=hi' by omega,htk,List.filterMap_append])
   clear hnx
   have W:∀ t∈JZ M i,t.Row=(i:Int):=fun t ht=>of_decide_eq_true (List.mem_filter.1 ht).2
   have hout:((M.take lo).filterMap (G1 r A B)).length≤65536:=by
     have:=List.length_filterMap_le (G1 r A B) (M.take lo)
     rw [List.length_take] at this; omega
   have hsl:=NO M i
   refine A0 (fun _=>U1 U (by omega) ?_) (fun h=>by omega)
   generalize (M.take lo).filterMap (G1 r A B)=out at G hout ⊢
   generalize JZ M i=xs at G W hsl ⊢
   refine B3 (fun (s:List (Int×Bool)) k=>(s,k)) 0 xs.length (by omega) (fun k m=>∀ q (hq:q<xs.length),q<k→BK xs[q].Col m=some true) (by omega) (fun q hq h=>by omega) (fun k m nx _ hk hm hnk=>?_) (fun m nx hm=>?_)
   · dsimp only
     refine A0 (fun _=>AA (by omega) (x:=xs[k].Col) (by simp [hk]) (hnk _ fun q hq hqk=>?_)) (fun h=>by simp at h; omega)
     by_cases e:xs[q].Col=xs[k].Col
     · rw [e,BG]
     · rw [BC e]
       refine hm q hq ?_
       by_cases e2:q=k
       · subst e2; exact absurd rfl e
       · omega
   · dsimp only
     refine A0 (fun h=>by simp at h) (fun _=>?_)
     refine oP hA hB (by omega) (by omega) hr hvA hvB fun sums Y=>?_
     refine B3 (fun (s:List AB) k=>(s,k)) 0 xs.length (by omega) (fun k s=>s=out++(xs.take k).filterMap (G1 r A B)) (by omega) (by simp) (fun k s ny _ hk Z hny=>?_) (fun s ny Z=>?_)
     · subst Z
       dsimp only
       have hlk:=List.length_filterMap_le (G1 r A B) (xs.take k)
       rw [List.length_take] at hlk
       have hask:=hm k hk hk
       have V:=Y.1 xs[k].Col (by simp only [hask]; rfl)
       have D:G1 r A B xs[k]=(KY r A B i xs[k].Col).map fun w=>⟨(i:Int),xs[k].Col,w⟩:=by
         unfold G1; rw [W _ (List.getElem_mem hk)]
       have J:(xs.take (k+1)).filterMap (G1 r A B)=(xs.take k).filterMap (G1 r A B)++(G1 r A B xs[k]).toList:=by
         rw [List.take_succ_eq_append_getElem hk,List.filterMap_append]
         congr 1
       refine A0 (fun _=>AA (by omega) (x:=xs[k].Col) (by simp [hk]) (YG (fun w hw=>?_) (fun hw=>?_))) (fun h=>by simp at h; omega)
       · refine AU rfl (AQ (by simp; omega) (hny _ ?_))
         rw [J,D,←V,hw,List.append_assoc]; rfl
       · refine AC rfl (hny _ ?_)
         rw [J,D,←V,hw]; simp
     · subst Z
       dsimp only
       rw [List.take_length]
       exact A0 (fun h=>by simp at h) (fun _=>G)
 · subst hm
   dsimp only
   refine A0 (fun h=>by omega) (fun _=>?_)
   have:=WZ U
   rw [show O.toNat=n by omega] at this
   rw [this,Int.toNat_natCast,List.take_length]
   exact hQ
theorem Ab0 (B:List A1) {k c:Int} (hk:0≤k):oG B k c=AdP (hZ B c k):=by
 unfold oG hZ dV JZ
 induction B with
 | nil=>rfl
 | cons t B D=>
  rw [List.find?_cons,List.filter_cons]
  by_cases h1:t.Row=k
  · rw [show decide (t.Row=((k.toNat:Nat):Int))=true from decide_eq_true (by omega)]
    by_cases h2:t.Col=c
    · rw [show decide (key t=(k,c))=true from decide_eq_true (by unfold key; rw [h1,h2])]
      simp [KX,PV,h2,AdP]
    · rw [show decide (key t=(k,c))=false from decide_eq_false (fun h=>h2 (by unfold key at h; simp_all))]
      simp only [if_true,List.map_cons,KX,PV]
      rw [if_neg (fun h=>h2 h.symm)]
      exact D
  · rw [show decide (t.Row=((k.toNat:Nat):Int))=false from decide_eq_false (by omega),show decide (key t=(k,c))=false from decide_eq_false (fun h=>h1 (by unfold key at h; simp_all))]
    exact D
theorem lN {r ra ca rb cb rm cm:Int} {A B M:List A1} {Q:List AB×Int→Prop} (Z:Canon ra ca A) (hB:Canon rb cb B) (W:Canon rm cm M) (hvA:∀ t∈A,GM t.Val) (hvB:∀ t∈B,GM t.Val)
   (Y:Q (bX r ra ca rb cb rm cm A B M)):OG r (B0 ra ca A) (B0 rb cb B) (B0 rm cm M) Q:=by
 unfold OG
 refine M1 Z.sml ?_
 rw [D4 Z]
 refine M1 hB.sml ?_
 rw [D4 hB]
 refine M1 W.sml ?_
 rw [D4 W]
 unfold bX at Y
 refine JY (BN (fun h=>?_) (fun h=>?_))
 · rwa [if_pos (of_decide_eq_false h)] at Y
 have hr:=of_decide_eq_true h
 rw [if_neg (fun h=>h hr)] at Y
 have hbad (hb:ca≠rb∨rm≠ra∨cm≠cb):Q ([],4):=by rwa [if_pos hb] at Y
 refine CB (fun h=>hbad (.inl h)) (fun h1=>CB (fun h=>hbad (.inr (.inl h))) (fun h2=>CB (fun h=>hbad (.inr (.inr h))) (fun h3=>?_)))
 have h1:ca=rb:=h1
 have h2:rm=ra:=h2
 have h3:cm=cb:=h3
 rw [if_neg (by omega)] at Y
 have hMl:=W.len; have hAl:=Z.len; have hAr:=Z.r1
 refine MN W.sml (D4 W) W ?_
 refine B3 (fun (s:List AB) i=>(s,i)) 0 M.length (by omega) (fun i s=>s=(M.take i).filterMap (G1 r A B)) (by omega) rfl (fun i s next _ hi hm J=>?_) (fun s next hm=>?_)
 · subst hm
   dsimp only
   have hin:=W.inn _ (List.getElem_mem hi)
   unfold RK at hin
   have hlk:=List.length_filterMap_le (G1 r A B) (M.take i)
   rw [List.length_take] at hlk
   have V:(M.take (i+1)).filterMap (G1 r A B)=(M.take i).filterMap (G1 r A B)++(G1 r A B M[i]).toList:=by
     rw [List.take_succ_eq_append_getElem hi,List.filterMap_append]
     congr 1
   rw [V] at J
   generalize (M.take i).filterMap (G1 r A B)=out at J hlk ⊢
   refine A0 (fun _=>AJ hi ?_) (fun h=>by omega)
   have D:∀ {K:A1→Prop},K M[i]→AN M (i:Int) K:=fun hK=>AJ hi hK
   generalize M[i]=t at hin J D ⊢
   obtain ⟨n,hn⟩:∃ n:Nat,t.Row=(n:Int):=⟨t.Row.toNat,by omega⟩
   obtain ⟨lo,hi',sg⟩:=Z.seg n
   have hlo:=sg.lo; have hhi:=sg.hi; have hle:=sg.le; have hlen:=sg.len
   rw [hn]
   refine FU (by omega) ?_
   rw [hlo]
   have e1:A7 ((n:Int)+1)=(n+1:Nat):=by rw [AH (by omega) (by omega)]; omega
   refine B3 (s0:=(none:Option AL)) (fun (s:Option AL) k=>((s.getD ⟨0,0⟩).Hi,(s.getD ⟨0,0⟩).Lo,s.isSome,k)) lo hi' (by omega) (fun p acc=>acc=(((A.take p).drop lo).map PV).foldl (M2 r (hZ B t.Col)) none) (by omega) (by rw [List.drop_eq_nil_of_le (by rw [List.length_take]; omega)]; rfl) (fun p acc nx h4 h5 G U=>?_) (fun acc nx G=>?_)
   · dsimp only
     refine D ?_
     rw [hn,e1]
     refine FU (by omega) ?_
     rw [hhi]
     have O:p<A.length:=by omega
     have hat:0≤A[p].Col:=(Z.inn _ (List.getElem_mem O)).2.2.1
     have hokA:∀ w,acc=some w→LG w:=fun w hw=>by rw [G] at hw; exact bV r _ _ none (fun _ h=>by cases h) w hw
     have hstp:(((A.take (p+1)).drop lo).map PV).foldl (M2 r (hZ B t.Col)) none=M2 r (hZ B t.Col) acc (PV A[p]):=by
      rw [oF h4 O,List.map_append,List.foldl_append,←G]; rfl
     rw [hstp] at U
     refine A0 (fun _=>AA (by omega) (x:=A[p].Col) (by simp [B0,O]) (D (fJ hB.sml (D4 hB) hB ?_))) (fun h=>by omega)
     rw [Ab0 B hat]
     cases hb:hZ B t.Col A[p].Col with
     | none=>
      refine AU rfl ?_
      have:=U acc (rI (y:=PV A[p]) hb).symm
      exact this
     | some x=>
      have hx:GM x:=by
       unfold hZ dV at hb
       have:=lJ hb
       obtain ⟨u,hu,he⟩:=List.mem_map.1 this
       have hv:=hvB u (List.mem_filter.1 hu).1
       unfold PV at he
       simp only [CO.mk.injEq] at he
       rw [←he.2]; exact hv
      refine AC rfl (AA (by omega) (x:=A[p].Val) (by simp [B0,O]) (lI (hvA _ (List.getElem_mem O)) hx ?_))
      have hs:=vH (r:=r) (acc:=acc) (y:=PV A[p]) hb
      cases hac:acc with
      | none=>
       rw [hac] at hs
       refine AC rfl ?_
       exact U (some (YK r A[p].Val x)) (by rw [hac,hs]; rfl)
      | some w=>
       rw [hac] at hs
       refine AU rfl (TU (hokA w hac) (MO _ _ _) ?_)
       exact U (some (F1 r w (YK r A[p].Val x))) (by rw [hac,hs]; rfl)
   · dsimp only
     refine D ?_
     rw [hn,e1]
     refine FU (by omega) ?_
     rw [hhi]
     refine A0 (fun h=>by omega) (fun _=>?_)
     have hw:acc=KY r A B t.Row t.Col:=by
      rw [G,sg.eq]
      unfold KY dV
      rw [hn]; rfl
     have hc:G1 r A B t=acc.map fun w=>⟨t.Row,t.Col,w⟩:=by unfold G1; rw [←hw]
     cases hac:acc with
     | none=>
      refine AC rfl (J _ ?_)
      rw [hc,hac]; simp
     | some w=>
      refine AU rfl (D (D (AQ (by simp; omega) (J _ ?_))))
      rw [hc,hac]; rfl
 · subst hm
   dsimp only
   rw [List.take_length]
   exact A0 (fun h=>by omega) (fun _=>Y)
def SR (a b:AB):Prop:=MA (a.Row,a.Col) (b.Row,b.Col)
structure ZV (rows cols:Int) (l:List AB):Prop where
 inc:l.Pairwise SR
 inn:∀ c∈l,(0≤c.Row∧c.Row<rows)∧(0≤c.Col∧c.Col<cols)
 ok:∀ c∈l,LG c.Val
 len:l.length≤65536
theorem eM {r ra ca rb cb W cm:Int} {A B M:List A1} (U:Canon W cm M):ZV W cm (FQ r A B M):=by
 have G:∀ c∈FQ r A B M,∃ t∈M,c.Row=t.Row∧c.Col=t.Col∧LG c.Val:=fun c D=>by
   obtain ⟨t,O,he⟩:=List.mem_filterMap.1 D
   unfold G1 at he
   cases hw:KY r A B t.Row t.Col with
   | none=>rw [hw] at he; cases he
   | some w=>rw [hw] at he; cases he; exact ⟨t,O,rfl,rfl,bV r _ _ none (fun _ h=>by cases h) w hw⟩
 refine ⟨?_,fun c D=>?_,fun c D=>?_,Nat.le_trans (vI r A B M) U.len⟩
 · refine List.Pairwise.filterMap _ (fun a b V c D d J=>?_) U.srt
   unfold G1 at D J
   cases hw:KY r A B a.Row a.Col with
   | none=>rw [hw] at D; cases D
   | some w=>
    cases hu:KY r A B b.Row b.Col with
    | none=>rw [hu] at J; cases J
    | some u=>rw [hw] at D; rw [hu] at J; cases D; cases J; exact V
 · obtain ⟨t,O,h1,h2,_⟩:=G c D
   have:=U.inn t O
   unfold RK at this
   omega
 · obtain ⟨t,_,_,_,h⟩:=G c D; exact h
theorem S1 (x y:AB):uU (QK x.Row y.Row) (QK x.Col y.Col)<0↔SR x y:=by
 unfold SR MA uU QK
 simp only
 split <;> split <;> (try split) <;> omega
theorem SD {x y:AB} {Q:Int→Prop} (h:Q (uU (QK x.Row y.Row) (QK x.Col y.Col))):QF x y Q:=by
 unfold QF
 exact GZ (GZ (iW h))
theorem iB {l:List AB} {Q:Bool→Prop} (hl:l.length≤1000000) (h:l.Pairwise SR) (G:Q true):JO l Q:=by
 unfold JO
 refine DF l.length (by omega) (fun _=>True) trivial (fun i next hi _ D=>?_) (fun next _=>?_)
 · refine A0 (fun _=>A0 (fun hp=>?_) (fun _=>D trivial)) (fun h=>by omega)
   have e:A7 ((i:Int) - 1)=((i - 1:Nat):Int):=by rw [AH (by omega) (by omega)]; omega
   rw [e]
   refine AJ (by omega) (AJ hi (SD (A0 (fun h0=>?_) (fun _=>D trivial))))
   have h1:=(S1 l[i - 1] l[i]).2 (List.pairwise_iff_getElem.1 h (i - 1) i (by omega) hi (by omega))
   omega
 · exact A0 (fun h=>by omega) (fun _=>G)
theorem lO {l:List AB} {Q:Bool→Prop} (hl:l.length≤1000000) (h:l.Pairwise SR) (D:Q true):JT l Q:=by
 unfold JT
 by_cases h0:l.length=0
 · refine ⟨1,?_⟩
   exact A0 (fun h=>by omega) (fun _=>D)
 refine B3 (σ:=Unit) (fun _ i=>i) 1 l.length (by omega) (fun _ _=>True) (by omega) trivial (fun i s next h1 hi _ J=>?_) (fun s next _=>?_) (s0:=())
 · refine A0 (fun _=>?_) (fun h=>by omega)
   have e:A7 ((i:Int) - 1)=((i - 1:Nat):Int):=by rw [AH (by omega) (by omega)]; omega
   rw [e]
   refine AJ (by omega) (AJ hi ?_)
   have G:SR l[i - 1] l[i]:=List.pairwise_iff_getElem.1 h (i - 1) i (by omega) hi (by omega)
   unfold SR MA at G
   simp only at G
   unfold JS
   refine A0 (fun _=>AC rfl (J () trivial)) (fun h3=>BB (fun O=>BN (fun U=>?_) (fun _=>J () trivial)) (fun O=>?_))
   · have:=of_decide_eq_false U; omega
   · omega
 · exact A0 (fun h=>by omega) (fun _=>D)
def qG (r:Int) (c:AB):Option A1:=if (M9 c.Val).1≠zS r then some ⟨c.Row,c.Col,(M9 c.Val).1⟩ else none
def ON (r rows cols:Int) (l:List AB):Rows×Int:=if l.all (fun c=>(M9 c.Val).2) then wL r rows cols (l.filterMap (qG r)) else (zR,12)
theorem yL (a:AL):GM (M9 a).1:=by
 unfold M9 GM
 split
 · rw [G3]; omega
 · simp
theorem lP {r:Int} {l:List AB}:∀ t∈l.filterMap (qG r),GM t.Val:=fun t h=>by
 obtain ⟨c,_,he⟩:=List.mem_filterMap.1 h
 unfold qG at he
 split at he
 · cases he; exact yL _
 · cases he
theorem jC {r:Int} {l:List AB} {i:Nat} (hi:i<l.length):(l.take (i+1)).filterMap (qG r)=(l.take i).filterMap (qG r)++(qG r l[i]).toList:=by
 rw [List.take_succ_eq_append_getElem hi,List.filterMap_append]
 congr 1
theorem ZW {r rows cols:Int} {l:List AB} {Q:Rows×Int→Prop} (hr:1≤r∧r≤5) (h0:(0≤rows∧rows≤4096)∧(0≤cols∧cols≤4096)) (h:ZV rows cols l) (Y:Q (ON r rows cols l)):WU r rows cols l Q:=by
 unfold WU DR
 have hl:=h.len
 refine JX ?_
 rw [decide_eq_true hr]
 refine AC rfl ?_
 unfold JP
 refine A0 (fun _=>BN (fun Z=>by have:=of_decide_eq_false Z; omega) (fun _=>A0 (fun _=>?_) (fun h=>by omega))) (fun h=>by omega)
 dsimp only
 rw [show (!decide (cols≤4096))=false by simp; omega]
 refine AC rfl ?_
 have hk:JO l fun r155=>AD (!r155) (Q (zR,6)) (AD (decide (65536<(l.length:Int))) (Q (zR,5)) (B2 (fun (s:(List A1)×Int) (G:((List A1)×Int)→Prop)=>match s with | (s448,s452)=>AD (decide (s452<(l.length:Int))) (AN l s452 fun D=>LY r D.Val fun J=>AD (!J.2) (Q (zR,12)) (SZ r fun r496=>AD (J.1 != r496) (EA 24 s448 ([({ Row:=D.Row,Col:=D.Col,Val:=J.1 }:A1)]) fun _=>G ((s448++([({ Row:=D.Row,Col:=D.Col,Val:=J.1 }:A1)])),A7 (s452+1))) (G (s448,A7 (s452+1))))) (QD r rows cols s448 fun U=>Q (U.1,U.2))) (([]:List A1),0))):=by
   refine iB (by omega) h.inc (AC rfl (A0 (fun h=>by omega) (fun _=>?_)))
   refine B3 (fun (s:List A1) i=>(s,i)) 0 l.length (by omega) (fun i s=>s=(l.take i).filterMap (qG r)∧∀ q (W:q<l.length),q<i→(M9 l[q].Val).2=true) (by omega) ⟨rfl,fun q W h=>by omega⟩ (fun i s next _ hi hm Z=>?_) (fun s next hm=>?_)
   · obtain ⟨rfl,V⟩:=hm
     have hst:=jC (r:=r) hi
     have hlk:=List.length_filterMap_le (qG r) (l.take i)
     rw [List.length_take] at hlk
     refine A0 (fun _=>AJ hi (iY (h.ok _ (List.getElem_mem hi)) ?_)) (fun h=>by omega)
     cases hb:(M9 l[i].Val).2 with
     | false=>
      refine AU rfl ?_
      unfold ON at Y
      rw [if_neg (fun ha=>by have:=List.all_eq_true.1 ha l[i] (List.getElem_mem hi); rw [hb] at this; cases this)] at Y
      exact Y
     | true=>
      have O:∀ q (W:q<l.length),q<i+1→(M9 l[q].Val).2=true:=fun q W hqi=>by
        by_cases e:q=i
        · subst e; exact hb
        · exact V q W (by omega)
      refine AC rfl (lK (CB (fun hz=>AQ (by simp; omega) (Z _ ⟨?_,O⟩)) (fun hz=>Z _ ⟨?_,O⟩)))
      · rw [hst]; unfold qG; rw [if_pos hz]; rfl
      · rw [hst]; unfold qG; rw [if_neg (fun h=>h hz)]; simp
   · obtain ⟨rfl,V⟩:=hm
     refine A0 (fun h=>by omega) (fun _=>?_)
     rw [List.take_length]
     have hlk:=List.length_filterMap_le (qG r) l
     unfold ON at Y
     rw [if_pos (List.all_eq_true.2 fun c hc=>by obtain ⟨q,W,rfl⟩:=List.getElem_of_mem hc; exact V q W W)] at Y
     exact xP (by omega) lP Y
 unfold D0 DD OX JP
 have e1:A7 (rows - 1)=rows - 1:=AH (by omega) (by omega)
 have e2:A7 (cols - 1)=cols - 1:=AH (by omega) (by omega)
 rw [e1,e2]
 refine DF l.length (by omega) (fun _=>True) trivial (fun i next hi _ Z=>?_) (fun next _=>?_)
 · have hc:=h.inn _ (List.getElem_mem hi)
   refine A0 (fun _=>AJ hi (A0 (fun _=>BN (fun hb=>by have:=of_decide_eq_false hb; omega) (fun _=>A0 (fun _=>?_) (fun h=>by omega))) (fun h=>by omega))) (fun h=>by omega)
   dsimp only
   rw [show (!decide ((l[i]).Col≤cols - 1))=false by simp; omega]
   exact AC rfl (Z trivial)
 · exact A0 (fun h=>by omega) (fun _=>AC (by decide) hk)
theorem oQ {r rows cols:Int} {l:List AB} {Q:Rows×Int→Prop} (hr:1≤r∧r≤5) (h0:(0≤rows∧rows≤4096)∧(0≤cols∧cols≤4096)) (h:ZV rows cols l) (O:Q (ON r rows cols l)):TQ r rows cols l Q:=by
 unfold TQ
 have hl:=h.len
 refine JY ?_
 rw [decide_eq_true hr]
 refine AC rfl (A0 (fun h=>by omega) (fun _=>A0 (fun h=>by omega) (fun _=>A0 (fun h=>by omega) (fun _=>A0 (fun h=>by omega) (fun _=>?_)))))
 refine DF l.length (by omega) (fun _=>True) trivial (fun i next hi _ W=>?_) (fun next _=>?_)
 · have hc:=h.inn _ (List.getElem_mem hi)
   exact A0 (fun _=>AJ hi (A0 (fun h=>by omega) (fun _=>AJ hi (A0 (fun h=>by omega) (fun _=>AJ hi (A0 (fun h=>by omega) (fun _=>AJ hi (A0 (fun h=>by omega) (fun _=>W trivial))))))))) (fun h=>by omega)
 refine A0 (fun h=>by omega) (fun _=>lO (by omega) h.inc (AC rfl (A0 (fun h=>by omega) (fun _=>?_))))
 refine B3 (fun (s:List A1) i=>(s,i)) 0 l.length (by omega) (fun i s=>s=(l.take i).filterMap (qG r)∧∀ q (J:q<l.length),q<i→(M9 l[q].Val).2=true) (by omega) ⟨rfl,fun q J h=>by omega⟩ (fun i s next _ hi Z W=>?_) (fun s next Z=>?_)
 · obtain ⟨rfl,G⟩:=Z
   have U:=jC (r:=r) hi
   have V:=List.length_filterMap_le (qG r) (l.take i)
   rw [List.length_take] at V
   refine A0 (fun _=>AJ hi (UO (h.ok _ (List.getElem_mem hi)) ?_)) (fun h=>by omega)
   cases hb:(M9 l[i].Val).2 with
   | false=>
    refine AU rfl ?_
    unfold ON at O
    rw [if_neg (fun ha=>by have:=List.all_eq_true.1 ha l[i] (List.getElem_mem hi); rw [hb] at this; cases this)] at O
    exact O
   | true=>
    have D:∀ q (J:q<l.length),q<i+1→(M9 l[q].Val).2=true:=fun q J hqi=>by
      by_cases e:q=i
      · subst e; exact hb
      · exact G q J (by omega)
    refine AC rfl (hU (CB (fun Y=>AJ hi (AJ hi (AQ (by simp; omega) (W _ ⟨?_,D⟩)))) (fun Y=>W _ ⟨?_,D⟩)))
    · rw [U]; unfold qG; rw [if_pos Y]; rfl
    · rw [U]; unfold qG; rw [if_neg (fun h=>h Y)]; simp
 · obtain ⟨rfl,G⟩:=Z
   refine A0 (fun h=>by omega) (fun _=>?_)
   rw [List.take_length]
   have V:=List.length_filterMap_le (qG r) l
   unfold ON at O
   rw [if_pos (List.all_eq_true.2 fun c hc=>by obtain ⟨q,J,rfl⟩:=List.getElem_of_mem hc; exact G q J J)] at O
   exact PU (by omega) lP O
theorem fM {x:Int} {Q:Int→Prop} (h:SQ .u8 x) (D:∀ n:Int,0≤n→n≤13→Q n):LZ x Q:=by
 unfold LZ
 have hb:=bounds_u8 h
 refine D _ ?_ ?_
 · rw [Int.tmod_eq_emod_of_nonneg (by omega)]; omega
 · rw [Int.tmod_eq_emod_of_nonneg (by omega)]; omega
theorem fN {n:Int} (h0:0≤n) (h1:n≤13):JC n=n:=by unfold JC; omega
theorem yM {a:GS} {Q:Rows×Rows×Rows→Prop} (U:SQ .u8 a.Size.1∧SQ .u8 a.Size.2.1∧SQ .u8 a.Size.2.2) (h1:∀ t∈a.A,KU t) (h2:∀ t∈a.B,KU t) (h3:∀ t∈a.M,KU t)
  (hQ:∀ n k m A B M,(0≤n∧n≤13)→(0≤k∧k≤13)→(0≤m∧m≤13)→Canon n k A→Canon k m B→Canon n m M→(∀ t∈A,GM t.Val)→(∀ t∈B,GM t.Val)→(∀ t∈M,GM t.Val)→Q (B0 n k A,B0 k m B,B0 n m M)):K8 a Q:=by
 unfold K8
 refine fM U.1 fun n h J=>fM U.2.1 fun k G D=>fM U.2.2 fun m m0 O=>?_
 refine bW ⟨PX h (Int.le_trans J (by decide)),PX G (Int.le_trans D (by decide))⟩ h1 fun A Y vA=>bW ⟨PX G (Int.le_trans D (by decide)),PX m0 (Int.le_trans O (by decide))⟩ h2 fun B V vB=>bW ⟨PX h (Int.le_trans J (by decide)),PX m0 (Int.le_trans O (by decide))⟩ h3 fun M W Z=>?_
 simp only [fN h J,fN G D,fN m0 O] at Y V W ⊢
 exact hQ n k m A B M ⟨h,J⟩ ⟨G,D⟩ ⟨m0,O⟩ Y V W vA vB Z
theorem oR {rows cols:Int} {T:List A1} (h:Canon rows cols T) {i j a:Int} (hi:0≤i):XA (dV T i) j=some a↔(⟨i,j,a⟩:A1)∈T:=by
 unfold dV
 rw [AaY (lM h.srt i.toNat),List.mem_map]
 unfold JZ
 constructor
 · rintro ⟨t,D,he⟩
   obtain ⟨J,O⟩:=List.mem_filter.1 D
   have U:=of_decide_eq_true O
   unfold PV at he
   obtain ⟨G,tc,tv⟩:=t
   simp only [CO.mk.injEq] at he U
   obtain ⟨rfl,rfl⟩:=he
   rw [show i=G by omega]
   exact J
 · intro D
   exact ⟨_,List.mem_filter.2 ⟨D,by simp; omega⟩,rfl⟩
theorem T4 {r rows cols:Int} {A B:List A1} (h:Canon rows cols A) {i:Int} (hi:0≤i) (c:Int):KY r A B i c=YL r cols.toNat (XA (dV A i)) (hZ B c):=by
 unfold KY
 refine yC (lM h.srt _) (fun x G=>?_)
 obtain ⟨t,D,rfl⟩:=List.mem_map.1 G
 have:=h.inn t (List.mem_filter.1 D).1
 unfold RK at this
 unfold PV
 dsimp only
 omega
theorem VM {α β:Type} {f g:α→Option β}:∀ {l:List α},(∀ x∈l,f x=g x)→l.filterMap f=l.filterMap g
 | [],_=>rfl
 | x :: l,h=>by rw [List.filterMap_cons,List.filterMap_cons,h x (by simp),VM fun y D=>h y (List.mem_cons_of_mem _ D)]
def XW (i m:Nat):List A1:=(List.range m).map fun j:Nat=>(⟨i,j,1⟩:A1)
def T5 (n m:Nat):List A1:=(List.range n).flatMap fun i:Nat=>XW i m
theorem rJ (i m:Nat):XW i (m+1)=XW i m++[⟨i,m,1⟩]:=by unfold XW; rw [List.range_succ,List.map_append]; rfl
theorem fO (n m:Nat):T5 (n+1) m=T5 n m++XW n m:=by unfold T5; rw [List.range_succ,List.flatMap_append]; simp
theorem bY (m:Nat):∀ n:Nat,(T5 n m).length=n*m
 | 0=>by simp [T5]
 | n+1=>by rw [fO,List.length_append,bY m n,XW,List.length_map,List.length_range,Nat.succ_mul]
theorem bZ {n m:Nat} {t:A1} (h:t∈T5 n m):RK n m t∧t.Val=1:=by
 obtain ⟨i,hi,h⟩:=List.mem_flatMap.1 h
 obtain ⟨j,D,rfl⟩:=List.mem_map.1 h
 rw [List.mem_range] at hi D
 unfold RK
 refine ⟨⟨?_,?_,?_,?_⟩,rfl⟩ <;> dsimp only <;> omega
theorem dB {n m:Nat} (hn:n≤200) (hm:m≤200):Canon n m (T5 n m) where
 r0:=by omega
 r1:=by omega
 c0:=by omega
 c1:=by omega
 len:=by
  rw [bY]
  have:=Nat.mul_le_mul hn hm
  omega
 srt:=by
  unfold Srt T5
  rw [List.pairwise_flatMap]
  refine ⟨fun i _=>?_,?_⟩
  · unfold XW
    rw [List.pairwise_map]
    refine List.Pairwise.imp (fun {a b} hab=>?_) (List.pairwise_lt_range (n:=m))
    unfold MA key
    dsimp only
    omega
  · refine List.Pairwise.imp (fun {a b} hab x hx y hy=>?_) (List.pairwise_lt_range (n:=n))
    obtain ⟨u,hu,rfl⟩:=List.mem_map.1 hx
    obtain ⟨v,hv,rfl⟩:=List.mem_map.1 hy
    unfold MA key
    dsimp only
    omega
 inn t ht:=(bZ ht).1
end Go.Proofs.YtbohadngdkjljaaGreat
