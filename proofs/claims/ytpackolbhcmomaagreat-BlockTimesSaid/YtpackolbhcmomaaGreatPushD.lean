import Derived.Test.YtpackolbhcmomaaGreatBaseB
namespace Go.Proofs.YtpackolbhcmomaaGreat
open Go Go.Fw
set_option linter.unusedVariables false
set_option linter.unusedSimpArgs false
def IncI (l:List Item):Prop:=l.Pairwise fun a b=>a.At<b.At
instance (l:List Item):Decidable (IncI l):=by unfold IncI; infer_instance
structure VecP (v:Vec):Prop where
  n0:0≤v.N
  n1:v.N≤4096
  inc:IncI v.Items
  ins:∀ x∈v.Items,0≤x.At∧x.At<v.N
instance (v:Vec):Decidable (VecP v):=decidable_of_iff (0≤v.N∧v.N≤4096∧IncI v.Items∧∀ x∈v.Items,0≤x.At∧x.At<v.N) ⟨fun ⟨a,b,c,d⟩=>⟨a,b,c,d⟩,fun ⟨a,b,c,d⟩=>⟨a,b,c,d⟩⟩
def zV:Vec:=⟨0,[]⟩
theorem zV_ok:VecP zV:=⟨by decide,by decide,.nil,by simp [zV]⟩
def sureV (v:Vec):Vec:=if VecP v then v else zV
theorem sureV_ok (v:Vec):VecP (sureV v):=by unfold sureV; split <;> first | assumption | exact zV_ok
theorem sureV_id {v:Vec} (h:VecP v):sureV v=v:=if_pos h
theorem inc_adj {l:List Item} (h:∀ (i:Nat) (hi:i+1<l.length),l[i].At<l[i+1].At):IncI l:=by
  unfold IncI
  rw [List.pairwise_iff_getElem]
  intro i j hi hj hij
  obtain ⟨d,rfl⟩:∃ d,j=i+1+d:=⟨j - i - 1,by omega⟩
  induction d with
  | zero=>exact h i (by omega)
  | succ d ih=>have h1:=ih (by omega) (by omega); have h2:=h (i+1+d) (by omega); exact Int.lt_trans h1 h2
theorem IncI.at {l:List Item} (h:IncI l) {i j:Nat} (hj:j<l.length) (hij:i<j):(l[i]'(by omega)).At<l[j].At:=by
  unfold IncI at h; rw [List.pairwise_iff_getElem] at h; exact h i j (by omega) hj hij
theorem incI_len {l:List Item} (h:IncI l) {n:Int} (hn:0≤n) (hi:∀ x∈l,0≤x.At∧x.At<n):(l.length:Int)≤n:=by
  have:∀ k (hk:k<l.length),(k:Int)≤l[k].At:=by
    intro k
    induction k with
    | zero=>intro hk; exact (hi _ (List.getElem_mem hk)).1
    | succ k ih=>intro hk; have:=ih (by omega); have:=h.at hk (i:=k) (by omega); omega
  rcases Nat.eq_zero_or_pos l.length with e | e
  · rw [e]; exact hn
  · have h1:=this (l.length - 1) (by omega)
    have h2:=hi _ (List.getElem_mem (show l.length - 1<l.length by omega))
    omega
theorem VecP.len {v:Vec} (h:VecP v):v.Items.length≤4096:=by have:=incI_len h.inc h.n0 h.ins; have:=h.n1; omega
theorem spvec_within_ok {x y:Int} {Q:Bool→Prop} (hQ:Q (decide (0≤x∧x≤y))):spvec_within x y Q:=by
  unfold spvec_within
  refine ifP_dec (fun h=>?_) (fun h=>?_)
  · simpa [h] using hQ
  · simpa [h] using hQ
theorem spvec_Right_ok {v:Vec} {Q:Bool→Prop} (hl:v.Items.length≤1000000000) (hQ:Q (decide (VecP v))):spvec_Right v Q:=by
  unfold spvec_Right
  have hno:¬VecP v→Q false:=fun h=>by rwa [decide_eq_false h] at hQ
  have hyes:VecP v→Q true:=fun h=>by rwa [decide_eq_true h] at hQ
  refine spvec_within_ok (ifP_not (fun h=>hno fun h'=>of_decide_eq_false h ⟨h'.n0,h'.n1⟩) (fun h=>?_))
  have h:=of_decide_eq_true h
  unfold slices_ContainsFunc_api_Item_api_Item_cd0 slices_IndexFunc_api_Item_api_Item_a3e
  refine range_intro (s0:=(-1:Int)) (fun (s:Int) i=>(s,i)) 0 v.Items.length (by omega) (fun k s=>(∀ (i:Nat) (hi:i+1<v.Items.length),i+1<k→v.Items[i].At<v.Items[i+1].At)∧(∀ i (hi:i<v.Items.length),i<k→0≤v.Items[i].At∧v.Items[i].At<v.N)∧(k=0→s = -1)∧(∀ (hk:0<k) (hl:k≤v.Items.length),s=(v.Items[k - 1]'(by omega)).At)) (by omega) ⟨fun i _ h=>by omega,fun i _ h=>by omega,fun _=>rfl,fun h=>by omega⟩ (fun k s next _ hk hs hn=>?_) (fun s next hs=>?_)
  · obtain ⟨h1,h2,h3,h4⟩:=hs
    refine ifP_dec (fun _=>idxP_nat hk ?_) (fun h=>by omega)
    unfold spvec_Right_1_81a
    have bad:¬VecP v→(fun r84:Bool×Int=>ifP r84.1 ((fun r17:Int×Int=>(fun r26:Bool×Int=>Q (!r26.1)) (decide (0≤r17.1),r17.2)) ((k:Int),r84.2)) (next (r84.2,w64 ((k:Int)+1)))) (true,v.Items[k].At):=by
      intro hn'
      refine ifP_pos rfl ?_
      simp only [show decide ((0:Int)≤(k:Int))=true by simp]
      exact hno hn'
    refine ifP_dec (fun h5=>bad fun hv=>?_) (fun h5=>?_)
    · rcases Nat.eq_zero_or_pos k with e | e
      · subst e
        rw [h3 rfl] at h5
        have:=(hv.ins _ (List.getElem_mem hk)).1; omega
      · rw [h4 e (by omega)] at h5
        have:=hv.inc.at hk (i:=k - 1) (by omega); omega
    · refine ⟨fun h6=>?_,fun h6=>hn _ ⟨fun i hi hik=>?_,fun i hi hik=>?_,fun h=>by omega,fun _ _=>by simp⟩⟩
      · have h6:=of_decide_eq_true h6
        simp only [show decide ((0:Int)≤(k:Int))=true by simp]
        exact hno fun hv=>by have:=(hv.ins _ (List.getElem_mem hk)).2; omega
      · by_cases e:i+1=k
        · subst e; rw [h4 (by omega) (by omega)] at h5; simp only [Nat.add_sub_cancel] at h5; omega
        · exact h1 i hi (by omega)
      · have h6:=of_decide_eq_false h6
        by_cases e:i=k
        · subst e
          refine ⟨?_,by omega⟩
          rcases Nat.eq_zero_or_pos i with e | e
          · rw [h3 e] at h5; omega
          · rw [h4 e (by omega)] at h5
            have:=(h2 (i - 1) (by omega) (by omega)).1; omega
        · exact h2 i hi (by omega)
  · obtain ⟨h1,h2,h3,h4⟩:=hs
    refine ifP_dec (fun h=>by omega) (fun _=>?_)
    simp only [show decide ((0:Int) ≤ -1)=false by decide]
    refine hyes ⟨h.1,h.2,inc_adj fun i hi=>h1 i hi (by omega),fun x hx=>?_⟩
    obtain ⟨i,hi,rfl⟩:=List.mem_iff_getElem.1 hx
    exact h2 i hi hi
theorem ref09_Right_ok {v:Vec} {Q:Bool→Prop} (hl:v.Items.length≤1000000000) (hQ:Q (decide (VecP v))):ref09_Right v Q:=by
  unfold ref09_Right
  have hno:¬VecP v→Q false:=fun h=>by rwa [decide_eq_false h] at hQ
  have hyes:VecP v→Q true:=fun h=>by rwa [decide_eq_true h] at hQ
  refine ifP_dec (fun h=>hno fun h'=>by have:=h'.n0; omega) (fun g0=>ifP_dec (fun h=>hno fun h'=>by have:=h'.n1; omega) (fun g1=>?_))
  refine scan_intro v.Items.length (by omega) (fun k=>(∀ (i:Nat) (hi:i+1<v.Items.length),i+1<k→v.Items[i].At<v.Items[i+1].At)∧(∀ i (hi:i<v.Items.length),i<k→0≤v.Items[i].At∧v.Items[i].At<v.N)) ⟨fun i _ h=>by omega,fun i _ h=>by omega⟩ (fun k next hk hR hn=>?_) (fun next hR=>?_)
  · refine ifP_dec (fun _=>idxP_nat hk (ifP_dec (fun h=>hno fun hv=>?_) (fun h1=>idxP_nat hk (ifP_dec (fun h=>hno fun hv=>?_) (fun h2=>ifP_dec (fun h3=>idxP_nat hk ?_) (fun h3=>hn ⟨fun i hi hik=>?_,fun i hi hik=>?_⟩)))))) (fun h=>by omega)
    · have:=(hv.ins _ (List.getElem_mem hk)).1; omega
    · have:=(hv.ins _ (List.getElem_mem hk)).2; omega
    · have e:w64 ((k:Int) - 1)=((k - 1:Nat):Int):=by rw [w64_id (by omega) (by omega)]; omega
      rw [e]
      refine idxP_nat (by omega) (ifP_dec (fun h=>hno fun hv=>?_) (fun h4=>hn ⟨fun i hi hik=>?_,fun i hi hik=>?_⟩))
      · have:=hv.inc.at hk (i:=k - 1) (by omega); omega
      · by_cases e:i+1=k
        · subst e; simp only [Nat.add_sub_cancel] at h4; omega
        · exact hR.1 i hi (by omega)
      · by_cases e:i=k
        · subst e; omega
        · exact hR.2 i hi (by omega)
    · omega
    · by_cases e:i=k
      · subst e; omega
      · exact hR.2 i hi (by omega)
  · refine ifP_dec (fun h=>by omega) (fun _=>hyes ⟨by omega,by omega,inc_adj fun i hi=>hR.1 i hi (by omega),fun x hx=>?_⟩)
    obtain ⟨i,hi,rfl⟩:=List.mem_iff_getElem.1 hx
    exact hR.2 i hi hi
theorem ref09_Sure_ok {v:Vec} {Q:Vec→Prop} (hl:v.Items.length≤1000000000) (hQ:Q (sureV v)):ref09_Sure v Q:=by
  unfold ref09_Sure
  unfold sureV at hQ
  refine ref09_Right_ok hl (ifP_dec (fun h=>?_) (fun h=>?_))
  · rwa [if_pos h] at hQ
  · rwa [if_neg h] at hQ
theorem spvec_sure_ok {v:Vec} {Q:Vec→Prop} (hl:v.Items.length≤1000000000) (hQ:Q (sureV v)):spvec_sure v Q:=by
  unfold spvec_sure
  unfold sureV at hQ
  refine spvec_Right_ok hl (ifP_dec (fun h=>?_) (fun h=>?_))
  · rwa [if_pos h] at hQ
  · rwa [if_neg h] at hQ
theorem map_loop {α β:Type} {xs:List α} {f:α→β} {body:List β×Int→(List β×Int→Prop)→Prop} (hl:xs.length≤1000000000)
    (hs:∀ (i:Nat) (s:List β) (next:List β×Int→Prop) (hi:i<xs.length),s.length=i→(next (s++[f xs[i]],w64 ((i:Int)+1)))→body (s,(i:Int)) next)
    (he:∀ (next:List β×Int→Prop) s,s=xs.map f→body (s,(xs.length:Int)) next):loopP body ([],0):=by
  refine range_intro (fun (s:List β) i=>(s,i)) 0 xs.length (by omega) (fun k s=>s=(xs.take k).map f) (by omega) (by simp) (fun k s next _ hk hs' hn=>?_) (fun s next hs'=>?_)
  · refine hs k s next hk (by subst hs'; simp; omega) (hn _ ?_)
    subst hs'
    rw [List.take_succ_eq_append_getElem hk,List.map_append]; rfl
  · rw [List.take_length] at hs'
    exact he next s hs'
def kvI (x:Item):Int×Int:=(x.At,x.Val)
def lkI (l:List Item) (i:Int):Option Int:=mget i (l.map kvI)
theorem lkI_cons (s:Item) (l:List Item) (i:Int):lkI (s :: l) i=if i=s.At then some s.Val else lkI l i:=rfl
theorem lkI_none:∀ {l:List Item} {i:Int},(∀ s∈l,s.At≠i)→lkI l i=none
  | [],_,_=>rfl
  | s :: l,i,h=>by rw [lkI_cons,if_neg (fun e=>h s (by simp) e.symm)]; exact lkI_none fun x hx=>h x (by simp [hx])
theorem lkI_mem:∀ {l:List Item} {i:Int} {v:Int},lkI l i=some v→⟨i,v⟩∈l
  | s :: l,i,v,h=>by
    rw [lkI_cons] at h
    split at h
    · rename_i e; cases h; subst e; simp
    · exact List.mem_cons_of_mem _ (lkI_mem h)
theorem mem_lkI:∀ {l:List Item} (h:IncI l) {s:Item},s∈l→lkI l s.At=some s.Val
  | x :: l,h,s,hs=>by
    unfold IncI at h
    rw [List.pairwise_cons] at h
    rw [lkI_cons]
    rcases List.mem_cons.1 hs with e | hs
    · subst e; rw [if_pos rfl]
    · have:=h.1 s hs
      rw [if_neg (by omega)]; exact mem_lkI h.2 hs
theorem lkI_append:∀ (l:List Item) (m:List Item) (i:Int),lkI (l++m) i=match lkI l i with | some v=>some v | none=>lkI m i
  | [],m,i=>rfl
  | s :: l,m,i=>by
    rw [List.cons_append,lkI_cons,lkI_cons]
    split
    · rfl
    · exact lkI_append l m i
def getO (o:Option Int):Int×Bool:=match o with | some v=>(v,true) | none=>(0,false)
theorem ref09_Get_ok {v:Vec} {i:Int} {Q:Int×Bool→Prop} (hl:v.Items.length≤1000000000) (hQ:Q (getO (lkI (sureV v).Items i))):ref09_Get v i Q:=by
  unfold ref09_Get
  have hvl:=(sureV_ok v).len
  refine ref09_Sure_ok hl (scan_intro (sureV v).Items.length (by omega) (fun k=>∀ j (hj:j<(sureV v).Items.length),j<k→(sureV v).Items[j].At≠i) (fun j hj h=>by omega) (fun k next hk hR hn=>?_) (fun next hR=>?_))
  · refine ifP_dec (fun _=>idxP_nat hk (ifP_eq (fun e=>idxP_nat hk ?_) (fun e=>hn fun j hj hjk=>?_))) (fun h=>by omega)
    · have:=mem_lkI (sureV_ok v).inc (List.getElem_mem hk)
      rw [e] at this
      rw [this] at hQ; exact hQ
    · by_cases e':j=k
      · subst e'; exact e
      · exact hR j hj (by omega)
  · refine ifP_dec (fun h=>by omega) (fun _=>?_)
    rw [lkI_none fun s hs=>?_] at hQ
    · exact hQ
    · obtain ⟨j,hj,rfl⟩:=List.mem_iff_getElem.1 hs
      exact hR j hj hj
def valsS (n:Nat) (l:List Item):List Int:=(List.range n).map fun i:Nat=>(lkI l i).getD 0
def denS (v:Vec):Dense:=⟨v.N,ofF v.N (v.Items.map (·.At)),valsS v.N.toNat v.Items⟩
theorem valsS_nil (n:Nat):valsS n []=List.replicate n 0:=by
  unfold valsS
  apply List.ext_getElem
  · simp
  · intro i h1 h2; simp [lkI,mget]
theorem valsS_snoc {n:Nat} {l:List Item} {x:Item} (h:∀ s∈l,s.At<x.At) (h0:0≤x.At):valsS n (l++[x])=(valsS n l).set x.At.toNat x.Val:=by
  unfold valsS
  rw [rm_set]
  refine List.map_congr_left fun i _=>?_
  rw [lkI_append,lkI_cons]
  by_cases e:i=x.At.toNat
  · subst e
    rw [if_pos rfl,lkI_none (fun s hs=>by have:=h s hs; omega)]
    simp only
    rw [if_pos (by omega)]; rfl
  · rw [if_neg e,if_neg (by omega)]
    split
    · rename_i v hv; rw [hv]
    · rename_i hv; rw [hv]; rfl
theorem IncI.before {l:List Item} (h:IncI l) {k:Nat} (hk:k<l.length):∀ s∈l.take k,s.At<l[k].At:=by
  intro s hs
  obtain ⟨j,hj,rfl⟩:=List.mem_iff_getElem.1 hs
  rw [List.length_take] at hj
  rw [List.getElem_take]
  exact h.at hk (by omega)
theorem at0_valsS {n:Nat} {l:List Item} {i:Int} (h0:0≤i) (h1:i<n):at0 (valsS n l) i=(lkI l i).getD 0:=by
  unfold valsS at0
  rw [List.getD_eq_getElem?_getD,List.getElem?_map,List.getElem?_range (by omega)]
  simp only [Option.map_some,Option.getD_some]
  rw [Int.toNat_of_nonneg h0]
theorem ref10_New_ok {n:Int} {Q:Dense→Prop} (h:0≤n∧n≤4096) (hQ:Q ⟨n,newF n,List.replicate n.toNat 0⟩):ref10_New n Q:=by
  unfold ref10_New
  exact ifP_dec (fun h'=>by omega) (fun _=>ifP_dec (fun h'=>by omega) (fun _=>⟨by omega,by omega,ref03_New_ok hQ⟩))
theorem ref10_Of_ok {v:Vec} {Q:Dense→Prop} (hl:v.Items.length≤1000000000) (hQ:Q (denS (sureV v))):ref10_Of v Q:=by
  unfold ref10_Of
  have hv:=sureV_ok v
  refine ref09_Sure_ok hl ?_
  generalize sureV v=u at hv hQ
  have hul:=hv.len
  have:=hv.n0; have:=hv.n1
  refine ref10_New_ok ⟨by omega,by omega⟩ (range_intro (s0:=(List.replicate u.N.toNat (0:Int),([]:List Int))) (fun (s:List Int×List Int) i=>(s.1,s.2,i)) 0 u.Items.length (by omega) (fun k s=>s.1=valsS u.N.toNat (u.Items.take k)∧s.2=(u.Items.take k).map (·.At)) (by omega) ⟨by simp [valsS_nil],by simp⟩ (fun k s next _ hk hs hn=>?_) (fun s next hs=>?_))
  · obtain ⟨s1,s2⟩:=s
    obtain ⟨h1,h2⟩:=hs
    simp only at h1 h2 ⊢
    have hin:=hv.ins _ (List.getElem_mem hk)
    refine ifP_dec (fun _=>idxP_nat hk (appP_intro (by subst h2; simp; omega) (idxP_nat hk (idxP_nat hk (idxP_at0 (by omega) (by subst h1; simp [valsS]; omega) (hn (_,_) ⟨?_,?_⟩)))))) (fun h=>by omega)
    · simp only; rw [List.take_succ_eq_append_getElem hk,valsS_snoc (hv.inc.before hk) hin.1,h1]
    · simp only; rw [List.take_succ_eq_append_getElem hk,List.map_append,h2]; rfl
  · obtain ⟨s1,s2⟩:=s
    obtain ⟨h1,h2⟩:=hs
    simp only at h1 h2 ⊢
    rw [List.take_length] at h1 h2
    subst h1; subst h2
    refine ifP_dec (fun h=>by omega) (fun _=>ref03_Of_ok (by simp; omega) (fun x hx=>?_) ?_)
    · obtain ⟨y,hy,rfl⟩:=List.mem_map.1 hx
      have:=hv.ins y hy; unfold inI; omega
    · exact hQ
theorem ats_incr {v:Vec} (h:VecP v):(v.Items.map (·.At)).Pairwise (· < ·):=by rw [List.pairwise_map]; exact h.inc
theorem den_has {v:Vec} (h:VecP v) (i:Int):hasF (denS v).Has i=(lkI v.Items i).isSome:=by
  have hn:=h.n1
  have e:=(ofF_prop v.N (v.Items.map (·.At))).2.2 i
  show hasF (ofF v.N (v.Items.map (·.At))) i=_
  rw [e]
  cases hlk:lkI v.Items i with
  | none=>
    refine decide_eq_false fun h'=>?_
    obtain ⟨x,hx,e⟩:=List.mem_map.1 h'.1
    have:=mem_lkI h.inc hx
    rw [e,hlk] at this; cases this
  | some y=>
    have hm:=lkI_mem hlk
    have:=h.ins _ hm
    simp only at this
    exact decide_eq_true ⟨List.mem_map.2 ⟨_,hm,rfl⟩,this.1,this.2,by omega⟩
theorem den_list {v:Vec} (h:VecP v):listF (denS v).Has=v.Items.map (·.At):=ofF_list h.n1 (ats_incr h) fun i hi=>by
  obtain ⟨x,hx,rfl⟩:=List.mem_map.1 hi
  exact h.ins x hx
theorem den_okF (v:Vec):okF (denS v).Has:=(ofF_prop _ _).1
theorem den_len (v:Vec):(denS v).Has.length≤64:=by rw [show (denS v).Has.length=wordsS v.N from (ofF_prop _ _).2.1]; exact words_le _
theorem ref10_Right_ok {v:Vec} {Q:Bool→Prop} (h:VecP v) (hQ:Q true):ref10_Right (denS v) Q:=by
  unfold ref10_Right
  have h0:=h.n0; have h1:=h.n1
  have hN:(denS v).N=v.N:=rfl
  have hVl:((denS v).Vals.length:Int)=v.N:=by simp [denS,valsS]; omega
  refine ifP_dec (fun h'=>by omega) (fun _=>ifP_dec (fun h'=>by omega) (fun _=>ref03_Right_ok (den_okF v) (by have:=den_len v; omega) ?_))
  rw [show decide (rightF (denS v).Has (denS v).N)=true from decide_eq_true (ofF_right ⟨h0,h1⟩ _)]
  refine ifP_neg rfl (ifP_ne (fun h'=>absurd hVl h') (fun _=>?_))
  refine scan_intro v.N.toNat (by omega) (fun _=>True) trivial (fun k next hk _ hn=>?_) (fun next _=>?_)
  · refine ifP_dec (fun _=>ref03_Has_ok (den_okF v) (by unfold inI; omega) (ifP_not (fun hb=>?_) (fun _=>hn trivial))) (fun h'=>by omega)
    refine idxP_at0 (by omega) (by omega) (ifP_ne (fun h'=>?_) (fun _=>hn trivial))
    rw [den_has h] at hb
    have:at0 (denS v).Vals (k:Int)=(lkI v.Items k).getD 0:=at0_valsS (by omega) (by omega)
    rw [this] at h'
    cases hlk:lkI v.Items (k:Int) with
    | none=>rw [hlk] at h'; exact absurd rfl h'
    | some y=>rw [hlk] at hb; cases hb
  · refine ifP_dec (fun h'=>by omega) (fun _=>hQ)
theorem ref10_Back_ok {v:Vec} {Q:Vec→Prop} (h:VecP v) (hQ:Q v):ref10_Back (denS v) Q:=by
  unfold ref10_Back
  have h0:=h.n0; have h1:=h.n1; have hl:=h.len
  refine ref10_Right_ok h (ifP_neg rfl (ref03_List_ok (den_okF v) (by have:=den_len v; omega) ?_))
  rw [den_list h]
  have hVl:((denS v).Vals.length:Int)=v.N:=by simp [denS,valsS]; omega
  refine map_loop (xs:=v.Items.map (·.At)) (f:=fun i=>(⟨i,(lkI v.Items i).getD 0⟩:Item)) (by simp; omega) (fun i s next hi hs hn=>?_) (fun next s hs=>?_)
  · have hi':i<v.Items.length:=by simpa using hi
    have hin:=h.ins _ (List.getElem_mem hi')
    refine ifP_dec (fun _=>idxP_nat hi (idxP_nat hi ?_)) (fun h'=>by omega)
    simp only [List.getElem_map]
    have e:at0 (denS v).Vals v.Items[i].At=(lkI v.Items v.Items[i].At).getD 0:=at0_valsS hin.1 (by omega)
    refine idxP_at0 hin.1 (by omega) (appP_intro (by simp; omega) ?_)
    rw [e]
    simpa only [List.getElem_map] using hn
  · refine ifP_dec (fun h'=>by omega) (fun _=>?_)
    have:s=v.Items:=by
      subst hs
      rw [List.map_map]
      refine (List.map_congr_left fun x hx=>?_).trans (List.map_id _)
      simp only [Function.comp,mem_lkI h.inc hx,Option.getD_some,id]
    rw [this]; exact hQ
def askF (f:List Int) (o:Bool) (i:Int):Bool:=hasF f i != o
def stepW (r:Int) (A B:Int→Option Int) (acc:Option Wide) (k:Int):Option Wide:=match A k,B k with | some a,some x=>cmb r acc (some (mulW r a x)) | _,_=>acc
def rowW (r:Int) (n:Nat) (A B:Int→Option Int):Option Wide:=(List.range n).foldl (fun acc (k:Nat)=>stepW r A B acc k) none
def sumsS (r:Int) (m n:Nat) (f:List Int) (o:Bool) (A:Int→Int→Option Int) (B:Int→Option Int):List Sum:=
  (List.range m).filterMap fun i:Nat=>if askF f o i then (rowW r n (A i) B).map fun w=>(⟨i,w⟩:Sum) else none
theorem sumsS_succ (r:Int) (m n:Nat) (f:List Int) (o:Bool) (A:Int→Int→Option Int) (B:Int→Option Int) :
    sumsS r (m+1) n f o A B=sumsS r m n f o A B++(if askF f o m then (rowW r n (A m) B).map fun w=>(⟨m,w⟩:Sum) else none).toList:=by
  unfold sumsS
  rw [List.range_succ,List.filterMap_append]
  congr 1
theorem stepW_okW {r:Int} {A B:Int→Option Int} {acc:Option Wide} (h:∀ w,acc=some w→okW w) (k:Int):∀ w,stepW r A B acc k=some w→okW w:=by
  intro w hw
  unfold stepW at hw
  split at hw
  · cases acc with
    | none=>cases hw; exact mulW_okW _ _ _
    | some b=>cases hw; exact addW_okW (h b rfl) (mulW_okW _ _ _)
  · exact h w hw
theorem rowW_okW (r:Int) (n:Nat) (A B:Int→Option Int):∀ w,rowW r n A B=some w→okW w:=by
  unfold rowW
  induction n with
  | zero=>intro w hw; cases hw
  | succ n ih=>rw [List.range_succ,List.foldl_append]; exact stepW_okW ih n
theorem sumsS_prop (r:Int) (n:Nat) (f:List Int) (o:Bool) (A:Int→Int→Option Int) (B:Int→Option Int):∀ m:Nat,
    Rise (sumsS r m n f o A B)∧(sumsS r m n f o A B).length≤m∧okS (sumsS r m n f o A B)∧(∀ s∈sumsS r m n f o A B,0≤s.At∧s.At<m)∧∀ i:Int,lk (sumsS r m n f o A B) i=if 0≤i∧i<m∧askF f o i=true then rowW r n (A i) B else none:=by
  intro m
  induction m with
  | zero=>
    refine ⟨.nil,by simp [sumsS],by simp [sumsS,okS],by simp [sumsS],fun i=>?_⟩
    rw [if_neg (by omega)]; rfl
  | succ m ih=>
    obtain ⟨h1,h2,h3,h4,h5⟩:=ih
    rw [sumsS_succ]
    by_cases ha:askF f o m=true
    · rw [if_pos ha]
      cases hw:rowW r n (A m) B with
      | none=>
        simp only [Option.map_none,Option.toList_none,List.append_nil]
        refine ⟨h1,by omega,h3,fun s hs=>by have:=h4 s hs; omega,fun i=>?_⟩
        rw [h5]
        by_cases e:i=m
        · subst e; rw [if_neg (by omega),hw]; simp
        · by_cases hi:0≤i∧i<m∧askF f o i=true
          · rw [if_pos hi,if_pos ⟨hi.1,by omega,hi.2.2⟩]
          · rw [if_neg hi,if_neg (fun h=>hi ⟨h.1,by omega,h.2.2⟩)]
      | some w=>
        simp only [Option.map_some,Option.toList_some]
        refine ⟨List.pairwise_append.2 ⟨h1,by simp,fun a ha' b hb=>?_⟩,by simp; omega,fun s hs=>?_,fun s hs=>?_,fun i=>?_⟩
        · simp only [List.mem_singleton] at hb; subst hb; exact (h4 a ha').2
        · rcases List.mem_append.1 hs with hs | hs
          · exact h3 s hs
          · simp only [List.mem_singleton] at hs; subst hs; exact rowW_okW r n _ _ w hw
        · rcases List.mem_append.1 hs with hs | hs
          · have:=h4 s hs; omega
          · simp only [List.mem_singleton] at hs; subst hs; simp only; omega
        · rw [lk_append,h5,lk_cons,lk_nil]
          by_cases e:i=m
          · subst e
            have c1:0≤(m:Int)∧(m:Int)<((m+1:Nat):Int)∧askF f o m=true:=⟨by omega,by omega,ha⟩
            rw [if_neg (fun h=>by omega),if_pos c1,hw]; simp
          · rw [if_neg e]
            by_cases hi:0≤i∧i<m∧askF f o i=true
            · rw [if_pos hi,if_pos ⟨hi.1,by omega,hi.2.2⟩]; split <;> simp_all
            · rw [if_neg hi,if_neg (fun h=>hi ⟨h.1,by omega,h.2.2⟩)]
    · rw [if_neg ha]
      simp only [Option.toList_none,List.append_nil]
      refine ⟨h1,by omega,h3,fun s hs=>by have:=h4 s hs; omega,fun i=>?_⟩
      rw [h5]
      by_cases e:i=m
      · subst e; rw [if_neg (by omega),if_neg (fun h=>ha h.2.2)]
      · by_cases hi:0≤i∧i<m∧askF f o i=true
        · rw [if_pos hi,if_pos ⟨hi.1,by omega,hi.2.2⟩]
        · rw [if_neg hi,if_neg (fun h=>hi ⟨h.1,by omega,h.2.2⟩)]
theorem foldl_same {β γ:Type} {f g:β→γ→β}:∀ {l:List γ} {a:β},(∀ acc k,k∈l→f acc k=g acc k)→l.foldl f a=l.foldl g a
  | [],_,_=>rfl
  | x :: l,a,h=>by rw [List.foldl_cons,List.foldl_cons,h a x (by simp)]; exact foldl_same fun acc k hk=>h acc k (by simp [hk])
theorem inc_fold {β:Type} {step:β→Int→Int→β} {a:β}:∀ {n:Nat} {l:List Item},IncI l→(∀ x∈l,0≤x.At∧x.At<n) →
    l.foldl (fun acc x=>step acc x.At x.Val) a=(List.range n).foldl (fun acc (k:Nat)=>match lkI l k with | some v=>step acc k v | none=>acc) a
  | 0,l,h,hi=>by
    cases l with
    | nil=>rfl
    | cons x l=>have:=hi x (by simp); omega
  | n+1,l,h,hi=>by
    rw [List.range_succ,List.foldl_append]
    simp only [List.foldl_cons,List.foldl_nil]
    have hc:l=[]∨∃ p y,l=p++[y]:=by
      rcases List.eq_nil_or_concat l with h | ⟨p,y,h⟩
      · exact .inl h
      · exact .inr ⟨p,y,by rw [h,List.concat_eq_append]⟩
    have old:∀ {l:List Item},IncI l→(∀ x∈l,0≤x.At∧x.At<n)→lkI l n=none:=fun _ hi=>lkI_none fun s hs=>by have:=hi s hs; omega
    rcases hc with e | ⟨p,y,e⟩
    · subst e
      rw [←inc_fold (n:=n) (l:=[]) h (by simp)]; rfl
    · subst e
      have hp:IncI p:=(List.pairwise_append.1 h).1
      have hlt:∀ x∈p,x.At<y.At:=fun x hx=>(List.pairwise_append.1 h).2.2 x hx y (by simp)
      by_cases ey:y.At=n
      · have hpin:∀ x∈p,0≤x.At∧x.At<n:=fun x hx=>⟨(hi x (by simp [hx])).1,by have:=hlt x hx; omega⟩
        have e1:lkI (p++[y]) n=some y.Val:=by rw [lkI_append,old hp hpin,lkI_cons,if_pos ey.symm]
        rw [e1,List.foldl_append,inc_fold hp hpin]
        simp only [List.foldl_cons,List.foldl_nil,ey]
        congr 1
        refine foldl_same fun acc k hk=>?_
        have hk:=List.mem_range.1 hk
        have:lkI (p++[y]) k=lkI p k:=by rw [lkI_append,lkI_cons,if_neg (by omega)]; cases lkI p k <;> rfl
        rw [this]
      · have hin:∀ x∈p++[y],0≤x.At∧x.At<n:=by
          intro x hx
          have h1:=hi x hx
          refine ⟨h1.1,?_⟩
          have hy:=hi y (by simp)
          rcases List.mem_append.1 hx with hx | hx
          · have:=hlt x hx; omega
          · simp only [List.mem_singleton] at hx; subst hx; omega
        rw [old h hin,inc_fold h hin]
def colM (r:Int) (T:List Triple) (f:List Int) (o:Bool) (x:Item):List Sum:=((colI T x.At).filter fun y=>askF f o y.At).map fun y=>⟨y.At,mulW r y.Val x.Val⟩
theorem colI_inc {T:List Triple} (h:Srt T) (k:Int):IncI (colI T k):=by
  unfold colI IncI
  rw [List.pairwise_map]
  have h1:(T.filter fun t=>decide (t.Row=k)).Pairwise fun a b=>ltK (key a) (key b):=List.Pairwise.filter _ h
  refine List.Pairwise.imp_of_mem (fun {a b} ha hb hab=>?_) h1
  have ha:=of_decide_eq_true (List.mem_filter.1 ha).2
  have hb:=of_decide_eq_true (List.mem_filter.1 hb).2
  unfold ltK key at hab
  simp only [itS] at hab ⊢; omega
theorem colI_mem {T:List Triple} {k:Int} {x:Item}:x∈colI T k↔(⟨k,x.At,x.Val⟩:Triple)∈T:=by
  unfold colI
  simp only [List.mem_map,List.mem_filter,decide_eq_true_eq]
  constructor
  · rintro ⟨t,⟨ht,e⟩,rfl⟩; subst e; exact ht
  · intro h; exact ⟨_,⟨h,rfl⟩,rfl⟩
theorem colM_prop {r:Int} {T:List Triple} (h:Srt T) (f:List Int) (o:Bool) (x:Item):Rise (colM r T f o x)∧okS (colM r T f o x)∧∀ i,lk (colM r T f o x) i=if askF f o i=true then (lkI (colI T x.At) i).map fun a=>mulW r a x.Val else none:=by
  have hl:=colI_inc h x.At
  unfold colM
  generalize colI T x.At=l at hl
  refine ⟨?_,?_,fun i=>?_⟩
  · unfold Rise; rw [List.pairwise_map]; exact List.Pairwise.filter _ hl
  · intro s hs
    obtain ⟨y,_,rfl⟩:=List.mem_map.1 hs
    exact mulW_okW _ _ _
  · clear hl
    induction l with
    | nil=>simp [lk,lkI,mget]
    | cons y l ih=>
      rw [lkI_cons]
      by_cases ha:askF f o y.At=true
      · rw [List.filter_cons_of_pos (by simpa using ha),List.map_cons,lk_cons]
        simp only
        by_cases e:i=y.At
        · subst e; rw [if_pos rfl,if_pos rfl,if_pos ha]; rfl
        · rw [if_neg e,if_neg e]; exact ih
      · rw [List.filter_cons_of_neg (by simpa using ha)]
        by_cases e:i=y.At
        · subst e; rw [if_pos rfl,if_neg ha,ih,if_neg ha]
        · rw [if_neg e]; exact ih
theorem foldR_list (r:Int) (i:Int):∀ (L:List (List Sum)) (n:Nat),n≤L.length→foldR r (fun w=>L.getD w []) i n none=(L.take n).foldl (fun acc l=>cmb r acc (lk l i)) none:=by
  intro L n
  induction n with
  | zero=>intro _; rfl
  | succ n ih=>
    intro hn
    rw [foldR,ih (by omega),List.take_succ_eq_append_getElem (by omega),List.foldl_append]
    simp [List.getD_eq_getElem?_getD,show n<L.length by omega]
theorem sums_merge {r:Int} {rows cols:Int} {T:List Triple} {v:Vec} (h:Canon cols rows T) (hv:VecP v) (hn:v.N=cols) (f:List Int) (o:Bool) :
    mergeS r (v.Items.map (colM r T f o))=sumsS r rows.toNat cols.toNat f o (fun i k=>lkI (colI T k) i) (lkI v.Items):=by
  have hrise:∀ l∈v.Items.map (colM r T f o),Rise l:=by
    intro l hl; obtain ⟨x,_,rfl⟩:=List.mem_map.1 hl; exact (colM_prop h.srt f o x).1
  have hm:=merge_prop r _ hrise _ (Nat.le_refl _)
  rw [List.take_length] at hm
  obtain ⟨s1,s2,s3,s4,s5⟩:=sumsS_prop r cols.toNat f o (fun i k=>lkI (colI T k) i) (lkI v.Items) rows.toNat
  refine rise_ext hm.1 s1 fun i=>?_
  rw [hm.2.2.2,s5,foldR_list r i _ _ (Nat.le_refl _),List.take_length,List.foldl_map]
  by_cases ha:askF f o i=true
  · have e1:∀ x:Item,lk (colM r T f o x) i=(lkI (colI T x.At) i).map fun a=>mulW r a x.Val:=fun x=>by rw [(colM_prop h.srt f o x).2.2,if_pos ha]
    simp only [e1]
    rw [inc_fold (step:=fun acc k xv=>cmb r acc ((lkI (colI T k) i).map fun a=>mulW r a xv)) (n:=cols.toNat) hv.inc (fun x hx=>by have:=hv.ins x hx; omega)]
    by_cases hi:0≤i∧i<rows
    · rw [if_pos ⟨hi.1,by omega,ha⟩]
      unfold rowW
      refine foldl_same fun acc k _=>?_
      unfold stepW
      simp only
      cases lkI v.Items (k:Int) <;> cases lkI (colI T (k:Int)) i <;> simp [cmb_none]
    · rw [if_neg (by omega)]
      have hnone:∀ k,lkI (colI T k) i=none:=fun k=>lkI_none fun s hs=>by
        have:=h.inn _ (colI_mem.1 hs); unfold inT at this; simp only at this; omega
      have:∀ (l:List Nat),l.foldl (fun acc (k:Nat)=>match lkI v.Items k with | some x=>cmb r acc ((lkI (colI T k) i).map fun a=>mulW r a x) | none=>acc) none=none:=by
        intro l
        induction l with
        | nil=>rfl
        | cons k l ih=>
          rw [List.foldl_cons,hnone]
          cases lkI v.Items (k:Int) <;> exact ih
      exact this _
  · rw [if_neg (fun h=>ha h.2.2)]
    have e1:∀ x:Item,lk (colM r T f o x) i=none:=fun x=>by rw [(colM_prop h.srt f o x).2.2,if_neg ha]
    simp only [e1,cmb_none]
    generalize v.Items=l
    induction l with
    | nil=>rfl
    | cons x l ih=>exact ih
theorem column_ok {r:Int} {l:List Item} {val:Int} {f:List Int} {o:Bool} {Q:List Sum→Prop} (hl:l.length≤1000000) (hf:okF f) (hi:∀ x∈l,inI x.At∧inI x.Val) (hv:inI val) (hQ:Q ((l.filter fun y=>askF f o y.At).map fun y=>⟨y.At,mulW r y.Val val⟩)):push_column r l val f o Q:=by
  unfold push_column
  refine range_intro (fun (s:List Sum) i=>(s,i)) 0 l.length (by omega) (fun k s=>s=((l.take k).filter fun y=>askF f o y.At).map fun y=>⟨y.At,mulW r y.Val val⟩) (by omega) (by simp) (fun k s next _ hk hs hn=>?_) (fun s next hs=>?_)
  · have hx:=hi _ (List.getElem_mem hk)
    have hsl:s.length≤k:=by
      subst hs; rw [List.length_map]
      have:=List.length_filter_le (fun y:Item=>askF f o y.At) (l.take k)
      rw [List.length_take] at this; omega
    refine ifP_dec (fun _=>idxP_nat hk (flags_Has_ok hf hx.1 ⟨fun h=>?_,fun h=>hn _ ?_⟩)) (fun h=>by omega)
    · refine ring_Mul_ok hx.2 hv (appP_intro (by simp; omega) (hn _ ?_))
      have ha:askF f o l[k].At=true:=by unfold askF; rw [bne]; exact h
      rw [List.take_succ_eq_append_getElem hk,List.filter_append,List.map_append,hs,List.filter_cons_of_pos (by simpa using ha)]; rfl
    · have ha:¬askF f o l[k].At=true:=by unfold askF; rw [bne,h]; simp
      rw [List.take_succ_eq_append_getElem hk,List.filter_append,List.map_append,hs,List.filter_cons_of_neg (by simpa using ha)]; simp
  · rw [List.take_length] at hs
    subst hs
    exact ifP_dec (fun h=>by omega) (fun _=>hQ)
theorem push_sure_ok {c:Columns} {x:Vec} {Q:Columns×Vec→Prop} (hc:smallC c) (hx:x.Items.length≤1000000000) (hQ:Q (sureC c,sureV x)):push_sure c x Q:=by
  unfold push_sure
  refine join_intro (fun t=>(⟨t.1,t.2.1,t.2.2.1,t.2.2.2.1,t.2.2.2.2.1,t.2.2.2.2.2⟩:Columns)=sureC c) ?_ ?_
  · rintro ⟨t1,t2,t3,t4,t5,t6⟩ ht
    simp only at ht ⊢
    rw [ht]
    unfold sureV at hQ
    refine spvec_Right_ok hx (ifP_not (fun h=>?_) (fun h=>?_))
    · rw [if_neg (of_decide_eq_false h)] at hQ; exact hQ
    · rw [if_pos (of_decide_eq_true h)] at hQ; exact hQ
  · intro k hk
    refine dcsc_right_ok hc (ifP_not (fun h=>hk _ ?_) (fun h=>hk _ ?_))
    · rw [sureC,if_neg (of_decide_eq_false h),colS_nil]
    · rw [sureC,if_pos (of_decide_eq_true h)]
def sumsP (r rows cols:Int) (T:List Triple) (v:Vec) (f:List Int) (o:Bool):List Sum×Int:=
  if ¬(1≤r∧r≤5) then ([],8) else if v.N≠cols then ([],4) else (sumsS r rows.toNat cols.toNat f o (fun i k=>lkI (colI T k) i) (lkI v.Items),0)
theorem push_Sums_ok {r rows cols:Int} {c:Columns} {x:Vec} {T:List Triple} {f:List Int} {o:Bool} {Q:List Sum×Int→Prop} (hc:smallC c) (hs:sureC c=colS rows cols T) (h:Canon cols rows T) (hT:∀ t∈T,inI t.Val)
    (hx:x.Items.length≤1000000000) (hxv:∀ y∈(sureV x).Items,inI y.Val) (hf:okF f) (hQ:Q (sumsP r rows cols T (sureV x) f o)):push_Sums r c x f o Q:=by
  unfold push_Sums
  unfold sumsP at hQ
  have hv:=sureV_ok x
  refine push_sure_ok hc hx ?_
  rw [hs]
  generalize sureV x=v at hv hxv hQ
  simp only
  have hvl:=hv.len
  refine ring_Is_ok (ifP_not (fun h'=>?_) (fun h'=>ifP_ne (fun hne=>?_) (fun he=>?_)))
  · rw [if_pos (of_decide_eq_false h')] at hQ; exact hQ
  · rw [if_neg (by have:=of_decide_eq_true h'; omega),if_pos (show v.N≠cols from hne)] at hQ; exact hQ
  · have hr:=of_decide_eq_true h'
    have he:v.N=cols:=he
    rw [if_neg (by omega),if_neg (by omega)] at hQ
    have hTl:=h.len
    refine map_loop (xs:=v.Items) (f:=colM r T f o) (by omega) (fun i s next hi hs' hn=>?_) (fun next s hs'=>?_)
    · refine ifP_dec (fun _=>idxP_nat hi (dcsc_column_ok h.smlC (sureC_col h) h (column_ok (by have:=colI_len T v.Items[i].At; omega) hf (fun y hy=>?_) (hxv _ (List.getElem_mem hi)) (appP_intro (by simp; omega) hn)))) (fun h=>by omega)
      have hm:=colI_mem.1 hy
      have h1:=h.inn _ hm; have h2:=hT _ hm
      have:=h.c1
      unfold inT at h1; simp only at h1 h2
      exact ⟨by unfold inI; omega,h2⟩
    · have hsl:s.length=v.Items.length:=by subst hs'; simp
      have hsum:∀ (l:List Item),total (l.map (colM r T f o))≤l.length*65536:=by
        intro l
        induction l with
        | nil=>simp [total]
        | cons y l ih=>
          have h1:(colM r T f o y).length≤65536:=by
            unfold colM; rw [List.length_map]
            have:=List.length_filter_le (fun y:Item=>askF f o y.At) (colI T y.At)
            have:=colI_len T y.At; omega
          unfold total at ih ⊢
          simp only [List.map_cons,List.foldr_cons,List.length_cons]; omega
      refine ifP_dec (fun h=>by omega) (fun _=>push_merge_ok (by simp only; omega) (fun l hl=>?_) (by subst hs'; have:=hsum v.Items; simp only; omega) (fun l hl=>?_) ?_)
      · subst hs'
        obtain ⟨y,_,rfl⟩:=List.mem_map.1 hl
        unfold colM; rw [List.length_map]
        have:=List.length_filter_le (fun y:Item=>askF f o y.At) (colI T y.At)
        have:=colI_len T y.At; omega
      · subst hs'
        obtain ⟨y,_,rfl⟩:=List.mem_map.1 hl
        exact (colM_prop h.srt f o y).2.1
      · unfold mergeP
        rw [if_neg (by omega),if_neg (by
          rintro ⟨l,hl,hn⟩
          subst hs'
          obtain ⟨y,_,rfl⟩:=List.mem_map.1 hl
          exact hn (colM_prop h.srt f o y).1),hs',sums_merge h hv he]
        exact hQ
end Go.Proofs.YtpackolbhcmomaaGreat
