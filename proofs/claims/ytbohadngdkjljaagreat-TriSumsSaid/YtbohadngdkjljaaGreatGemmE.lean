import Derived.Test.YtbohadngdkjljaaGreatPushH
namespace Go.Proofs.YtbohadngdkjljaaGreat
open Go Go.Fw
set_option linter.unusedVariables false
set_option linter.unusedSimpArgs false
theorem AaC (a b:AP):fF a b∨fF b a:=by unfold fF; omega
theorem AcK {a b:AP} (h:fF a b) (h':fF b a):a=b:=by unfold fF at *; exact PR (by omega) (by omega)
theorem AaD {a b c:AP} (h:fF a b) (h':fF b c):fF a c:=by unfold fF at *; omega
def fX (a b:AP):AP:=if fF a b then a else b
theorem AaE (a b:AP):fX a b=fX b a:=by
  unfold fX
  by_cases h:fF a b <;> by_cases h':fF b a
  · rw [if_pos h,if_pos h']; exact AcK h h'
  · rw [if_pos h,if_neg h']
  · rw [if_neg h,if_pos h']
  · rcases AaC a b with e | e
    · exact absurd e h
    · exact absurd e h'
theorem vZ (a b c:AP):fX (fX a b) c=fX a (fX b c):=by
  unfold fX
  by_cases h1:fF a b <;> by_cases h2:fF b c <;> by_cases h3:fF a c <;> simp only [h1,h2,h3,if_true,if_false]
  · exact absurd (AaD h1 h2) h3
  · exfalso; unfold fF at *; omega
theorem AaF {r:Int} {a b:AP} (ha:PA a) (hb:PA b):GF r a b=GF r b a:=by
  by_cases h:r=1∨r=3∨r=4
  · have e:∀ a b,GF r a b=fX a b:=fun a b=>by unfold GF fX; rw [if_pos h]
    rw [e,e]; exact AaE a b
  · by_cases h2:r=2
    · unfold GF
      rw [if_neg h,if_pos h2,if_neg h,if_pos h2]
      by_cases e1:a=⟨0,0⟩ <;> by_cases e2:b=⟨0,0⟩ <;> simp [e1,e2]
    · by_cases h5:r=5
      · subst h5
        rw [bV ha,bV hb,QY,QY,Int.add_comm]
      · unfold GF; rw [if_neg h,if_neg h2,if_neg h5,if_neg h,if_neg h2,if_neg h5]
theorem wA {r:Int} {a b c:AP} (ha:PA a) (hb:PA b) (hc:PA c):GF r (GF r a b) c=GF r a (GF r b c):=by
  by_cases h:r=1∨r=3∨r=4
  · have e:∀ a b,GF r a b=fX a b:=fun a b=>by unfold GF fX; rw [if_pos h]
    simp only [e]; exact vZ a b c
  · by_cases h2:r=2
    · have e:∀ a b,GF r a b=if a=⟨0,0⟩∧b=⟨0,0⟩ then ⟨0,0⟩ else ⟨0,1⟩:=fun a b=>by unfold GF; rw [if_neg h,if_pos h2]
      have n1:(⟨0,1⟩:AP)≠⟨0,0⟩:=by decide
      simp only [e]
      by_cases e1:a=⟨0,0⟩ <;> by_cases e2:b=⟨0,0⟩ <;> by_cases e3:c=⟨0,0⟩ <;> simp [e1,e2,e3]
    · by_cases h5:r=5
      · subst h5
        rw [bV ha,bV hb,bV hc,QY,QY,QY,QY,Int.add_assoc]
      · unfold GF
        simp only [if_neg h,if_neg h2,if_neg h5]
def okO (o:Option AP):Prop:=∀ w,o=some w→PA w
theorem AcL {r:Int} {a b:Option AP} (ha:okO a) (hb:okO b):gT r a b=gT r b a:=by
  cases a with
  | none=>cases b <;> rfl
  | some x=>cases b with
    | none=>rfl
    | some y=>simp only [gT]; rw [AaF (ha x rfl) (hb y rfl)]
theorem VS {r:Int} {a b c:Option AP} (ha:okO a) (hb:okO b) (hc:okO c):gT r (gT r a b) c=gT r a (gT r b c):=by
  cases a with
  | none=>cases b <;> rfl
  | some x=>cases b with
    | none=>cases c <;> rfl
    | some y=>cases c with
      | none=>rfl
      | some z=>simp only [gT]; rw [wA (ha x rfl) (hb y rfl) (hc z rfl)]
theorem dS (r:Int) (n:Nat) (A B:Int→Option Int):XL r (n+1) A B=fJ r A B (XL r n A B) n:=by
  unfold XL; rw [List.range_succ,List.foldl_append]; rfl
theorem sI (r:Int) (k:Nat) (A B:Int→Option Int):∀ m:Nat,XL r (k+m) A B=gT r (XL r k A B) (XL r m (fun j=>A (j+k)) (fun j=>B (j+k)))
  | 0=>by rw [Nat.add_zero,show XL r 0 (fun j=>A (j+k)) (fun j=>B (j+k))=none from rfl,NL]
  | m+1=>by
    rw [←Nat.add_assoc,dS,dS,sI r k A B m]
    have ho:=sH r m (fun j=>A (j+k)) (fun j=>B (j+k))
    generalize XL r m (fun j=>A (j+k)) (fun j=>B (j+k))=o at ho ⊢
    unfold fJ
    rw [show (((k+m:Nat):Int))=(m:Int)+k by omega]
    simp only
    cases hA:A ((m:Int)+k) with
    | none=>rfl
    | some a=>cases hB:B ((m:Int)+k) with
      | none=>rfl
      | some x=>
        have hm:okO (some (jC r a x)):=fun w hw=>by
          have:=Option.some.inj hw
          subst this; exact PT _ _ _
        exact VS (sH r k A B) ho hm
theorem ZU {r:Int} {n:Nat} {A A' B B':Int→Option Int} (hA:∀ j:Nat,j<n→A j=A' j) (hB:∀ j:Nat,j<n→B j=B' j):XL r n A B=XL r n A' B':=by
  unfold XL
  refine WH fun acc k hk=>?_
  have hk:=List.mem_range.1 hk
  unfold fJ
  rw [hA k hk,hB k hk]
theorem AeV {l:List DS} (h:IncI l) {i a:Int}:WU l i=some a↔(⟨i,a⟩:DS)∈l:=⟨yO,fun hm=>yP h hm⟩
theorem AeW {x y:Option Int} (h:∀ a,x=some a↔y=some a):x=y:=by
  cases x with
  | none=>cases y with
    | none=>rfl
    | some b=>have:=(h b).2 rfl; cases this
  | some a=>exact ((h a).1 rfl).symm
def wC (B:List AD) (c:Int) (k:Int):Option Int:=WU (bY B k) c
def MM (r:Int) (A B:List AD) (i c:Int):Option AP:=(bY A i).foldl (VR r (wC B c)) none
def HU (r:Int) (A B:List AD) (t:AD):Option AK:=(MM r A B t.Row t.Col).map fun w=>⟨t.Row,t.Col,w⟩
def FC (r:Int) (A B M:List AD):List AK:=M.filterMap (HU r A B)
theorem WI {rows cols:Int} {ts:List AD} {i:Nat} {Q:List Int×List Int→Prop} (h:Canon rows cols ts) (hi:(i:Int)<rows) (hQ:Q ((KP ts i).map (·.Col),(KP ts i).map (·.Val))):RM (BO rows cols ts) i Q:=by
  unfold RM
  have hr:=h.r1
  obtain ⟨lo,hi',s⟩:=h.seg i
  have e1:AH ((i:Int)+1)=(i+1:Nat):=by rw [AX (by omega) (by omega)]; omega
  rw [e1]
  refine YI (by omega) (YI (by omega) ?_)
  rw [s.lo,s.hi]
  have h1:=s.le; have h2:=s.len
  have hc:(BO rows cols ts).Col.length=ts.length:=by simp [BO]
  have hv:(BO rows cols ts).Val.length=ts.length:=by simp [BO]
  refine ⟨by omega,by omega,by omega,by omega,by omega,by omega,?_⟩
  simp only [Int.toNat_natCast,BO,←List.map_take,←List.map_drop,s.eq]
  exact hQ
theorem oY {l:List Rows} {Q:List Rows→Prop} (hl:l.length≤100) (h:∀ a∈l,small a∧WE a) (hQ:Q l):YB l Q:=by
  unfold YB
  refine AW (fun (s:List Rows) i=>(s,i)) 0 l.length (by omega) (fun i s=>s=l.take i) (by omega) rfl (fun i s next _ hi hm hn=>?_) (fun s next hm=>?_)
  · subst hm
    have hx:=h _ (List.getElem_mem hi)
    refine AC (fun _=>AV hi (bT hx.1 ?_)) (fun h=>by omega)
    rw [decide_eq_true hx.2]
    refine AN rfl (BG (by simp; omega) (hn _ ?_))
    rw [List.take_succ_eq_append_getElem hi]
  · subst hm
    rw [List.take_length]
    exact AC (fun h=>by omega) (fun _=>hQ)
theorem oZ {ts:List AD} (h:Srt ts) (i:Nat):IncI ((KP ts i).map WT):=by
  unfold IncI KP
  rw [List.pairwise_map]
  refine List.Pairwise.imp_of_mem ?_ (List.Pairwise.filter _ h)
  intro a b ha hb hab
  have h1:=of_decide_eq_true (List.mem_filter.1 ha).2
  have h2:=of_decide_eq_true (List.mem_filter.1 hb).2
  unfold TS key at hab
  simp only [WT]
  simp only at hab
  omega
def AcM (m:List (Int×AP)) (asked:Int→Bool) (f:Int→Option AP):Prop:=(∀ c,asked c=true→BM c m=f c)∧∀ c w,BM c m=some w→PA w
theorem AgT {l:List (Int×Bool)} {k:Int} {C:Bool→Prop} (h:C ((BM k l).getD false)):zX l k false C:=KK h
theorem sJ {r ra ca rb cb:Int} {A B:List AD} {asked:List (Int×Bool)} {i:Nat} {Q:List (Int×AP)→Prop} (hA:Canon ra ca A) (hB:Canon rb cb B) (hab:ca≤rb) (hi:(i:Int)<ra) (hr:1≤r∧r≤5) (hvA:∀ t∈A,FP t.Val) (hvB:∀ t∈B,FP t.Val)
    (hQ:∀ m,AcM m (fun c=>(BM c asked).getD false) (MM r A B i)→Q m):QT asked r (BO ra ca A) (BO rb cb B) i Q:=by
  unfold QT
  refine WI hA hi ?_
  have hsl:=SY A i
  have hAl:=hA.len
  have hBl:=hB.len
  have hrow:∀ t∈KP A i,(0≤t.Col∧t.Col<ca)∧FP t.Val:=fun t ht=>by
    have hm:=(List.mem_filter.1 ht).1
    have:=hA.inn t hm
    unfold ZB at this
    exact ⟨⟨this.2.2.1,this.2.2.2⟩,hvA t hm⟩
  unfold MM at hQ
  rw [show bY A (i:Int)=(KP A i).map WT from rfl] at hQ
  generalize KP A i=xs at hQ hsl hrow
  refine AW (fun (s:List (Int×AP)) k=>(s,k)) 0 xs.length (by omega) (fun k m=>AcM m (fun c=>(BM c asked).getD false) fun c=>((xs.take k).map WT).foldl (VR r (wC B c)) none) (by omega) ⟨fun c _=>rfl,fun c w h=>by simp [BM] at h⟩ (fun k m next _ hk hm hn=>?_) (fun m next hm=>?_)
  · dsimp only
    have hx:=hrow _ (List.getElem_mem hk)
    refine AC (fun _=>AO (by omega) (x:=xs[k].Col) (by simp [hk]) ?_) (fun h=>by simp at h; omega)
    obtain ⟨c0,hc0⟩:∃ c0:Nat,xs[k].Col=(c0:Int):=⟨xs[k].Col.toNat,by omega⟩
    rw [hc0]
    refine WI hB (by omega) ?_
    have hinc:=oZ hB.srt c0
    have hsl2:=SY B c0
    have hrow2:∀ t∈KP B c0,FP t.Val:=fun t ht=>hvB t (List.mem_filter.1 ht).1
    have hbat:∀ c,wC B c xs[k].Col=WU ((KP B c0).map WT) c:=fun c=>by unfold wC bY; rw [hc0]; rfl
    generalize KP B c0=ys at hinc hsl2 hrow2 hbat
    -- how it is behind so many of the row's items
    let F:Nat→Int→Option AP:=fun j c=>match WU ((ys.take j).map WT) c with
      | some b=>gT r (((xs.take k).map WT).foldl (VR r (wC B c)) none) (some (jC r xs[k].Val b))
      | none=>((xs.take k).map WT).foldl (VR r (wC B c)) none
    have hF0:F 0=fun c=>((xs.take k).map WT).foldl (VR r (wC B c)) none:=rfl
    refine AW (fun (s:List (Int×AP)) j=>(s,j)) 0 ys.length (by omega) (fun j m=>AcM m (fun c=>(BM c asked).getD false) (F j)) (by omega) (by rw [hF0]; exact hm) (fun j m' nx _ hj hm' hnx=>?_) (fun m' nx hm'=>?_)
    · dsimp only
      have htk:(ys.take (j+1)).map WT=(ys.take j).map WT++[WT ys[j]]:=HT hj
      have hFs:∀ c,F (j+1) c=if c=ys[j].Col then F (j+1) c else F j c:=fun c=>by
        by_cases e:c=ys[j].Col
        · rw [if_pos e]
        · rw [if_neg e]
          have:WU ((ys.take (j+1)).map WT) c=WU ((ys.take j).map WT) c:=by
            rw [htk,TA]
            have h0:WU [WT ys[j]] c=none:=bW fun s hs=>by simp only [List.mem_singleton] at hs; subst hs; exact fun h=>e h.symm
            rw [h0]; split <;> simp_all
          show (match WU ((ys.take (j+1)).map WT) c with | some b=>_ | none=>_)=_
          rw [this]
      have hnew:WU ((ys.take j).map WT) ys[j].Col=none:=bW fun s hs=>by
        obtain ⟨t,ht,rfl⟩:=List.mem_map.1 hs
        obtain ⟨q,hq,rfl⟩:=List.getElem_of_mem ht
        rw [List.length_take] at hq
        rw [List.getElem_take]
        have hlen:(ys.map WT).length=ys.length:=by simp
        have:=hinc.at (i:=q) (j:=j) (by omega) (by omega)
        simp only [List.getElem_map] at this
        intro h
        simp only [WT] at this h
        omega
      have hold:F j ys[j].Col=((xs.take k).map WT).foldl (VR r (wC B ys[j].Col)) none:=by
        show (match WU ((ys.take j).map WT) ys[j].Col with | some b=>_ | none=>_)=_
        rw [hnew]
      have hhit:F (j+1) ys[j].Col=gT r (F j ys[j].Col) (some (jC r xs[k].Val ys[j].Val)):=by
        rw [hold]
        have:WU ((ys.take (j+1)).map WT) ys[j].Col=some ys[j].Val:=by rw [htk,TA,hnew]; simp [PU,WT]
        show (match WU ((ys.take (j+1)).map WT) ys[j].Col with | some b=>_ | none=>_)=_
        rw [this]
      have hy:=hrow2 _ (List.getElem_mem hj)
      refine AC (fun _=>AO (by omega) (x:=ys[j].Col) (by simp [hj]) (AgT ?_)) (fun h=>by simp at h; omega)
      cases ha:(BM ys[j].Col asked).getD false with
      | false=>
        refine BF rfl (hnx _ ⟨fun c hc=>?_,hm'.2⟩)
        rw [hFs,if_neg (fun e=>by subst e; simp only at hc; rw [ha] at hc; cases hc)]
        exact hm'.1 c hc
      | true=>
        have hcur:=hm'.1 ys[j].Col ha
        refine AN rfl (AO (by omega) (x:=xs[k].Val) (by simp [hk]) (AO (by omega) (x:=ys[j].Val) (by simp [hj]) (rU hx.2 hy (W3 (fun w hw=>?_) (fun hw=>?_)))))
        · refine BF rfl (PS (hm'.2 _ _ hw) (PT _ _ _) (hnx _ ⟨fun c hc=>?_,fun c u hu=>?_⟩))
          · by_cases e:c=ys[j].Col
            · subst e; rw [BN,hhit,←hcur,hw]; rfl
            · rw [BE e,hFs,if_neg e]; exact hm'.1 c hc
          · by_cases e:c=ys[j].Col
            · subst e; rw [BN] at hu; cases hu; exact SW (hm'.2 _ _ hw) (PT _ _ _)
            · rw [BE e] at hu; exact hm'.2 c u hu
        · refine AN rfl (hnx _ ⟨fun c hc=>?_,fun c u hu=>?_⟩)
          · by_cases e:c=ys[j].Col
            · subst e; rw [BN,hhit,←hcur,hw]; rfl
            · rw [BE e,hFs,if_neg e]; exact hm'.1 c hc
          · by_cases e:c=ys[j].Col
            · subst e; rw [BN] at hu; cases hu; exact PT _ _ _
            · rw [BE e] at hu; exact hm'.2 c u hu
    · dsimp only
      refine AC (fun h=>by simp at h) (fun _=>hn _ ⟨fun c hc=>?_,hm'.2⟩)
      rw [hm'.1 c hc,HT hk]
      show F ys.length c=List.foldl (VR r (wC B c)) none ((xs.take k).map WT++[WT xs[k]])
      rw [List.foldl_append]
      show (match WU ((ys.take ys.length).map WT) c with | some b=>_ | none=>_)=VR r (wC B c) _ (WT xs[k])
      rw [List.take_length,←hbat c]
      unfold VR
      simp only [WT]
      all_goals (split <;> simp_all)
  · dsimp only
    rw [List.take_length] at hm
    exact AC (fun h=>by simp at h) (fun _=>hQ m hm)
def wD (r ra ca rb cb rm cm:Int) (A B M:List AD):List AK×Int:=
  if ¬(1≤r∧r≤5) then ([],8) else if ca≠rb∨rm≠ra∨cm≠cb then ([],4) else (FC r A B M,0)
theorem AaG (r:Int) (A B M:List AD):(FC r A B M).length≤M.length:=List.length_filterMap_le _ _
theorem AcN {T:List AD} {i lo hi:Nat} (s:Seg T i lo hi):T.take hi=T.take lo++KP T i:=by
  have h:=List.take_append_drop lo (T.take hi)
  rw [s.eq,List.take_take,Nat.min_eq_left s.le] at h
  exact h.symm
theorem lB {r ra ca rb cb rm cm:Int} {A B M:List AD} {Q:List AK×Int→Prop} (hA:Canon ra ca A) (hB:Canon rb cb B) (hM:Canon rm cm M) (hvA:∀ t∈A,FP t.Val) (hvB:∀ t∈B,FP t.Val)
    (hQ:Q (wD r ra ca rb cb rm cm A B M)):SK r (BO ra ca A) (BO rb cb B) (BO rm cm M) Q:=by
  unfold SK
  refine oY (by simp) (fun a ha=>?_) (AO (by omega) rfl (AO (by omega) rfl (AO (by omega) rfl (KG ?_))))
  · simp only [List.mem_cons,List.not_mem_nil,or_false] at ha
    rcases ha with rfl | rfl | rfl
    · exact ⟨hA.sml,hA.right⟩
    · exact ⟨hB.sml,hB.right⟩
    · exact ⟨hM.sml,hM.right⟩
  unfold wD at hQ
  refine CO (fun h=>?_) (fun h=>?_)
  · rwa [if_pos (of_decide_eq_false h)] at hQ
  have hr:=of_decide_eq_true h
  rw [if_neg (fun h=>h hr)] at hQ
  have hbad (hb:ca≠rb∨rm≠ra∨cm≠cb):Q ([],4):=by rwa [if_pos hb] at hQ
  refine FR (fun h=>hbad (.inl h)) (fun h1=>FR (fun h=>hbad (.inr (.inl h))) (fun h2=>FR (fun h=>hbad (.inr (.inr h))) (fun h3=>?_)))
  have h1:ca=rb:=h1
  have h2:rm=ra:=h2
  have h3:cm=cb:=h3
  rw [if_neg (by omega)] at hQ
  have hrm:=hM.r0; have hrm1:=hM.r1; have hMl:=hM.len
  obtain ⟨n,hn⟩:∃ n:Nat,rm=(n:Int):=⟨rm.toNat,by omega⟩
  have hR:(BO rm cm M).Rows=(n:Int):=hn
  rw [hR]
  refine AW (fun (s:List AK) i=>(s,i)) 0 n (by omega) (fun i s=>s=(M.take (GK M i).toNat).filterMap (HU r A B)) (by omega) (by rw [ZT (fun t ht=>(hM.inn t ht).1)]; rfl) (fun i s next _ hi hm hnx=>?_) (fun s next hm=>?_)
  · subst hm
    dsimp only
    obtain ⟨lo,hi',sg⟩:=hM.seg i
    have hlo:=sg.lo; have hhi:=sg.hi; have hle:=sg.le; have hlen:=sg.len
    have htk:=AcN sg
    rw [show (GK M i).toNat=lo by omega]
    have hnx':=hnx ((M.take lo).filterMap (HU r A B)++(KP M i).filterMap (HU r A B)) (by rw [show (GK M (i+1)).toNat=hi' by omega,htk,List.filterMap_append])
    clear hnx
    have hrow:∀ t∈KP M i,t.Row=(i:Int):=fun t ht=>of_decide_eq_true (List.mem_filter.1 ht).2
    have hout:((M.take lo).filterMap (HU r A B)).length≤65536:=by
      have:=List.length_filterMap_le (HU r A B) (M.take lo)
      rw [List.length_take] at this; omega
    have hsl:=SY M i
    refine AC (fun _=>WI hM (by omega) ?_) (fun h=>by omega)
    generalize (M.take lo).filterMap (HU r A B)=out at hnx' hout ⊢
    generalize KP M i=xs at hnx' hrow hsl ⊢
    refine AW (fun (s:List (Int×Bool)) k=>(s,k)) 0 xs.length (by omega) (fun k m=>∀ q (hq:q<xs.length),q<k→BM xs[q].Col m=some true) (by omega) (fun q hq h=>by omega) (fun k m nx _ hk hm hnk=>?_) (fun m nx hm=>?_)
    · dsimp only
      refine AC (fun _=>AO (by omega) (x:=xs[k].Col) (by simp [hk]) (hnk _ fun q hq hqk=>?_)) (fun h=>by simp at h; omega)
      by_cases e:xs[q].Col=xs[k].Col
      · rw [e,BN]
      · rw [BE e]
        refine hm q hq ?_
        by_cases e2:q=k
        · subst e2; exact absurd rfl e
        · omega
    · dsimp only
      refine AC (fun h=>by simp at h) (fun _=>?_)
      refine sJ hA hB (by omega) (by omega) hr hvA hvB fun sums hsums=>?_
      refine AW (fun (s:List AK) k=>(s,k)) 0 xs.length (by omega) (fun k s=>s=out++(xs.take k).filterMap (HU r A B)) (by omega) (by simp) (fun k s ny _ hk hm2 hny=>?_) (fun s ny hm2=>?_)
      · subst hm2
        dsimp only
        have hlk:=List.length_filterMap_le (HU r A B) (xs.take k)
        rw [List.length_take] at hlk
        have hask:=hm k hk hk
        have hcur:=hsums.1 xs[k].Col (by simp only [hask]; rfl)
        have hcell:HU r A B xs[k]=(MM r A B i xs[k].Col).map fun w=>⟨(i:Int),xs[k].Col,w⟩:=by
          unfold HU; rw [hrow _ (List.getElem_mem hk)]
        have hstep:(xs.take (k+1)).filterMap (HU r A B)=(xs.take k).filterMap (HU r A B)++(HU r A B xs[k]).toList:=by
          rw [List.take_succ_eq_append_getElem hk,List.filterMap_append]
          congr 1
        refine AC (fun _=>AO (by omega) (x:=xs[k].Col) (by simp [hk]) (W3 (fun w hw=>?_) (fun hw=>?_))) (fun h=>by simp at h; omega)
        · refine BF rfl (BG (by simp; omega) (hny _ ?_))
          rw [hstep,hcell,←hcur,hw,List.append_assoc]; rfl
        · refine AN rfl (hny _ ?_)
          rw [hstep,hcell,←hcur,hw]; simp
      · subst hm2
        dsimp only
        rw [List.take_length]
        exact AC (fun h=>by simp at h) (fun _=>hnx')
  · subst hm
    dsimp only
    refine AC (fun h=>by omega) (fun _=>?_)
    have:=dR hM
    rw [show rm.toNat=n by omega] at this
    rw [this,Int.toNat_natCast,List.take_length]
    exact hQ
def gU (a b:AK):Prop:=TS (a.Row,a.Col) (b.Row,b.Col)
structure yQ (rows cols:Int) (l:List AK):Prop where
  inc:l.Pairwise gU
  inn:∀ c∈l,(0≤c.Row∧c.Row<rows)∧(0≤c.Col∧c.Col<cols)
  ok:∀ c∈l,PA c.Val
  len:l.length≤65536
theorem gV {r ra ca rb cb rm cm:Int} {A B M:List AD} (hM:Canon rm cm M):yQ rm cm (FC r A B M):=by
  have hmem:∀ c∈FC r A B M,∃ t∈M,c.Row=t.Row∧c.Col=t.Col∧PA c.Val:=fun c hc=>by
    obtain ⟨t,ht,he⟩:=List.mem_filterMap.1 hc
    unfold HU at he
    cases hw:MM r A B t.Row t.Col with
    | none=>rw [hw] at he; cases he
    | some w=>rw [hw] at he; cases he; exact ⟨t,ht,rfl,rfl,mJ r _ _ none (fun _ h=>by cases h) w hw⟩
  refine ⟨?_,fun c hc=>?_,fun c hc=>?_,Nat.le_trans (AaG r A B M) hM.len⟩
  · refine List.Pairwise.filterMap _ (fun a b hab c hc d hd=>?_) hM.srt
    unfold HU at hc hd
    cases hw:MM r A B a.Row a.Col with
    | none=>rw [hw] at hc; cases hc
    | some w=>
      cases hu:MM r A B b.Row b.Col with
      | none=>rw [hu] at hd; cases hd
      | some u=>rw [hw] at hc; rw [hu] at hd; cases hc; cases hd; exact hab
  · obtain ⟨t,ht,h1,h2,_⟩:=hmem c hc
    have:=hM.inn t ht
    unfold ZB at this
    omega
  · obtain ⟨t,_,_,_,h⟩:=hmem c hc; exact h
theorem UL (x y:AK):uS (OO x.Row y.Row) (OO x.Col y.Col)<0↔gU x y:=by
  unfold gU TS uS OO
  simp only
  split <;> split <;> (try split) <;> omega
theorem UY {x y:AK} {Q:Int→Prop} (h:Q (uS (OO x.Row y.Row) (OO x.Col y.Col))):SM x y Q:=by
  unfold SM
  exact FL (FL (fE h))
theorem lD {l:List AK} {Q:Bool→Prop} (hl:l.length≤1000000) (h:l.Pairwise gU) (hQ:Q true):KD l Q:=by
  unfold KD
  refine EC l.length (by omega) (fun _=>True) trivial (fun i next hi _ hn=>?_) (fun next _=>?_)
  · refine AC (fun _=>AC (fun hp=>?_) (fun _=>hn trivial)) (fun h=>by omega)
    have e:AH ((i:Int) - 1)=((i - 1:Nat):Int):=by rw [AX (by omega) (by omega)]; omega
    rw [e]
    refine AV (by omega) (AV hi (UY (AC (fun h0=>?_) (fun _=>hn trivial))))
    have h1:=(UL l[i - 1] l[i]).2 (List.pairwise_iff_getElem.1 h (i - 1) i (by omega) hi (by omega))
    omega
  · exact AC (fun h=>by omega) (fun _=>hQ)
def pA (r:Int) (c:AK):Option AD:=if (KV c.Val).1≠zS r then some ⟨c.Row,c.Col,(KV c.Val).1⟩ else none
def VT (r rows cols:Int) (l:List AK):Rows×Int:=if l.all (fun c=>(KV c.Val).2) then ofS r rows cols (l.filterMap (pA r)) else (zR,12)
theorem AcO (a:AP):FP (KV a).1:=by
  unfold KV FP
  split
  · rw [IY]; omega
  · simp
theorem pB {r:Int} {l:List AK}:∀ t∈l.filterMap (pA r),FP t.Val:=fun t ht=>by
  obtain ⟨c,_,he⟩:=List.mem_filterMap.1 ht
  unfold pA at he
  split at he
  · cases he; exact AcO _
  · cases he
theorem AaH {r:Int} {l:List AK} {i:Nat} (hi:i<l.length):(l.take (i+1)).filterMap (pA r)=(l.take i).filterMap (pA r)++(pA r l[i]).toList:=by
  rw [List.take_succ_eq_append_getElem hi,List.filterMap_append]
  congr 1
theorem pC {r rows cols:Int} {l:List AK} {Q:Rows×Int→Prop} (hr:1≤r∧r≤5) (h0:(0≤rows∧rows≤4096)∧(0≤cols∧cols≤4096)) (h:yQ rows cols l) (hQ:Q (VT r rows cols l)):YC r rows cols l Q:=by
  unfold YC FW
  have hl:=h.len
  refine KG ?_
  rw [decide_eq_true hr]
  refine AN rfl ?_
  unfold KE
  refine AC (fun _=>CO (fun hn=>by have:=of_decide_eq_false hn; omega) (fun _=>AC (fun _=>?_) (fun h=>by omega))) (fun h=>by omega)
  dsimp only
  rw [show (!decide (cols≤4096))=false by simp; omega]
  refine AN rfl ?_
  have hk:KD l fun r155=>AQ (!r155) (Q (zR,6)) (AQ (decide (65536<(l.length:Int))) (Q (zR,5)) (BD (fun (s:(List AD)×Int) (next454:((List AD)×Int)→Prop)=>match s with | (s448,s452)=>AQ (decide (s452<(l.length:Int))) (BA l s452 fun x472=>ID r x472.Val fun r486=>AQ (!r486.2) (Q (zR,12)) (RN r fun r496=>AQ (r486.1 != r496) (HN 24 s448 ([({ Row:=x472.Row,Col:=x472.Col,Val:=r486.1 }:AD)]) fun _=>next454 ((s448++([({ Row:=x472.Row,Col:=x472.Col,Val:=r486.1 }:AD)])),AH (s452+1))) (next454 (s448,AH (s452+1))))) (SJ r rows cols s448 fun r512=>Q (r512.1,r512.2))) (([]:List AD),0))):=by
    refine lD (by omega) h.inc (AN rfl (AC (fun h=>by omega) (fun _=>?_)))
    refine AW (fun (s:List AD) i=>(s,i)) 0 l.length (by omega) (fun i s=>s=(l.take i).filterMap (pA r)∧∀ q (hq:q<l.length),q<i→(KV l[q].Val).2=true) (by omega) ⟨rfl,fun q hq h=>by omega⟩ (fun i s next _ hi hm hn=>?_) (fun s next hm=>?_)
    · obtain ⟨rfl,hok⟩:=hm
      have hst:=AaH (r:=r) hi
      have hlk:=List.length_filterMap_le (pA r) (l.take i)
      rw [List.length_take] at hlk
      refine AC (fun _=>AV hi (YH (h.ok _ (List.getElem_mem hi)) ?_)) (fun h=>by omega)
      cases hb:(KV l[i].Val).2 with
      | false=>
        refine BF rfl ?_
        unfold VT at hQ
        rw [if_neg (fun ha=>by have:=List.all_eq_true.1 ha l[i] (List.getElem_mem hi); rw [hb] at this; cases this)] at hQ
        exact hQ
      | true=>
        have hok':∀ q (hq:q<l.length),q<i+1→(KV l[q].Val).2=true:=fun q hq hqi=>by
          by_cases e:q=i
          · subst e; exact hb
          · exact hok q hq (by omega)
        refine AN rfl (bZ (FR (fun hz=>BG (by simp; omega) (hn _ ⟨?_,hok'⟩)) (fun hz=>hn _ ⟨?_,hok'⟩)))
        · rw [hst]; unfold pA; rw [if_pos hz]; rfl
        · rw [hst]; unfold pA; rw [if_neg (fun h=>h hz)]; simp
    · obtain ⟨rfl,hok⟩:=hm
      refine AC (fun h=>by omega) (fun _=>?_)
      rw [List.take_length]
      have hlk:=List.length_filterMap_le (pA r) l
      unfold VT at hQ
      rw [if_pos (List.all_eq_true.2 fun c hc=>by obtain ⟨q,hq,rfl⟩:=List.getElem_of_mem hc; exact hok q hq hq)] at hQ
      exact Ac5 (by omega) pB hQ
  unfold DD DN PZ KE
  have e1:AH (rows - 1)=rows - 1:=AX (by omega) (by omega)
  have e2:AH (cols - 1)=cols - 1:=AX (by omega) (by omega)
  rw [e1,e2]
  refine EC l.length (by omega) (fun _=>True) trivial (fun i next hi _ hn=>?_) (fun next _=>?_)
  · have hc:=h.inn _ (List.getElem_mem hi)
    refine AC (fun _=>AV hi (AC (fun _=>CO (fun hb=>by have:=of_decide_eq_false hb; omega) (fun _=>AC (fun _=>?_) (fun h=>by omega))) (fun h=>by omega))) (fun h=>by omega)
    dsimp only
    rw [show (!decide ((l[i]).Col≤cols - 1))=false by simp; omega]
    exact AN rfl (hn trivial)
  · exact AC (fun h=>by omega) (fun _=>AN (by decide) hk)
def AcP (r:Int) (ts:List AD):Int×Int:=
  if ¬(1≤r∧r≤5) then (0,8) else match ts with
    | []=>(zS r,0)
    | t :: l=>if (KV (l.foldl (fun w u=>GF r w (PX u.Val)) (PX t.Val))).2 then ((KV (l.foldl (fun w u=>GF r w (PX u.Val)) (PX t.Val))).1,0) else (0,12)
theorem jG {r:Int}:∀ {l:List AD} {w:AP},(∀ t∈l,FP t.Val)→PA w→PA (l.foldl (fun w u=>GF r w (PX u.Val)) w)
  | [],_,_,h=>h
  | t :: l,w,hv,h=>jG (l:=l) (fun u hu=>hv u (List.mem_cons_of_mem _ hu)) (SW h (WB (hv t (by simp))))
theorem lE {r rows cols:Int} {T:List AD} {Q:Int×Int→Prop} (hT:Canon rows cols T) (hv:∀ t∈T,FP t.Val) (hQ:Q (AcP r T)):SP r (BO rows cols T) Q:=by
  unfold SP
  unfold AcP at hQ
  refine KG (CO (fun h=>?_) (fun h=>?_))
  · rwa [if_pos (of_decide_eq_false h)] at hQ
  have hr:=of_decide_eq_true h
  rw [if_neg (fun h=>h hr)] at hQ
  refine SZ hT.sml (MA hT) hT ?_
  have hlen:=hT.len
  match T,hv,hQ,hlen with
  | [],_,hQ,_=>exact CU (fun _=>bZ hQ) (fun h=>absurd rfl h)
  | t :: l,hv,hQ,hlen=>
    refine CU (fun h=>by simp at h; omega) (fun _=>AO (by omega) rfl (GD (hv t (by simp)) ⟨by omega,by simp; omega,by omega,?_⟩))
    have e:(((t :: l).take ((t :: l).length:Int).toNat).drop (Int.toNat 1))=l:=by simp
    simp only [e]
    rw [List.length_cons] at hlen
    refine AW (fun (w:AP) i=>(w.Hi,w.Lo,i)) 0 l.length (by omega) (fun i w=>w=(l.take i).foldl (fun w u=>GF r w (PX u.Val)) (PX t.Val)) (by omega) rfl (fun i w next _ hi hm hn=>?_) (fun w next hm=>?_) (s0:=PX t.Val)
    · dsimp only
      have hok:PA w:=by rw [hm]; exact jG (fun u hu=>hv u (List.mem_cons_of_mem _ (List.mem_of_mem_take hu))) (WB (hv t (by simp)))
      have hx:=hv _ (List.mem_cons_of_mem _ (List.getElem_mem hi))
      refine AC (fun _=>AV hi (GD hx (PS hok (WB hx) (hn _ ?_)))) (fun h=>by omega)
      rw [List.take_succ_eq_append_getElem hi,List.foldl_append,←hm]; rfl
    · dsimp only
      rw [List.take_length] at hm
      have hok:PA w:=by rw [hm]; exact jG (fun u hu=>hv u (List.mem_cons_of_mem _ hu)) (WB (hv t (by simp)))
      refine AC (fun h=>by omega) (fun _=>YH hok ?_)
      simp only [←hm] at hQ
      cases hb:(KV w).2 with
      | true=>rw [hb,if_pos rfl] at hQ; exact AN rfl hQ
      | false=>rw [hb,if_neg (by simp)] at hQ; exact BF rfl hQ
theorem TB {rows cols:Int} {T:List AD} (h:Canon rows cols T) {i j a:Int} (hi:0≤i):WU (bY T i) j=some a↔(⟨i,j,a⟩:AD)∈T:=by
  unfold bY
  rw [AeV (oZ h.srt i.toNat),List.mem_map]
  unfold KP
  constructor
  · rintro ⟨t,ht,he⟩
    obtain ⟨h1,h2⟩:=List.mem_filter.1 ht
    have h3:=of_decide_eq_true h2
    unfold WT at he
    obtain ⟨tr,tc,tv⟩:=t
    simp only [DS.mk.injEq] at he h3
    obtain ⟨rfl,rfl⟩:=he
    rw [show i=tr by omega]
    exact h1
  · intro ht
    exact ⟨_,List.mem_filter.2 ⟨ht,by simp; omega⟩,rfl⟩
theorem TC {r rows cols:Int} {A B:List AD} (h:Canon rows cols A) {i:Int} (hi:0≤i) (c:Int):MM r A B i c=XL r cols.toNat (WU (bY A i)) (wC B c):=by
  unfold MM
  refine AcI (oZ h.srt _) (fun x hx=>?_)
  obtain ⟨t,ht,rfl⟩:=List.mem_map.1 hx
  have:=h.inn t (List.mem_filter.1 ht).1
  unfold ZB at this
  unfold WT
  dsimp only
  omega
theorem XM {α β:Type} {f g:α→Option β}:∀ {l:List α},(∀ x∈l,f x=g x)→l.filterMap f=l.filterMap g
  | [],_=>rfl
  | x :: l,h=>by rw [List.filterMap_cons,List.filterMap_cons,h x (by simp),XM fun y hy=>h y (List.mem_cons_of_mem _ hy)]
end Go.Proofs.YtbohadngdkjljaaGreat
