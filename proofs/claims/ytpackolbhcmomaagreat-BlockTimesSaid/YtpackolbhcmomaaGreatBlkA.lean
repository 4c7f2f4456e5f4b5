import Derived.Test.YtpackolbhcmomaaGreatOK
import Derived.Test.YtpackolbhcmomaaGreatPushD
namespace Go.Proofs.YtpackolbhcmomaaGreat
open Go Go.Fw
set_option linter.unusedVariables false
set_option linter.unusedSimpArgs false
def stepI (r:Int) (B:Int→Option Int) (acc:Option Wide) (y:Item):Option Wide:=match B y.At with | some x=>cmb r acc (some (mulW r y.Val x)) | none=>acc
theorem stepI_okW {r:Int} {B:Int→Option Int} {acc:Option Wide} (h:∀ w,acc=some w→okW w) (y:Item):∀ w,stepI r B acc y=some w→okW w:=by
  intro w hw
  unfold stepI at hw
  split at hw
  · cases acc with
    | none=>cases hw; exact mulW_okW _ _ _
    | some b=>cases hw; exact addW_okW (h b rfl) (mulW_okW _ _ _)
  · exact h w hw
theorem foldI_okW (r:Int) (B:Int→Option Int):∀ (l:List Item) (acc:Option Wide),(∀ w,acc=some w→okW w)→∀ w,l.foldl (stepI r B) acc=some w→okW w
  | [],acc,h=>h
  | y :: l,acc,h=>foldI_okW r B l _ (stepI_okW h y)
theorem row_fold {r:Int} {B:Int→Option Int} {n:Nat} {l:List Item} (h:IncI l) (hi:∀ x∈l,0≤x.At∧x.At<n):l.foldl (stepI r B) none=rowW r n (lkI l) B:=by
  have:=inc_fold (step:=fun acc k a=>match B k with | some x=>cmb r acc (some (mulW r a x)) | none=>acc) (a:=none) h hi
  refine this.trans (foldl_same fun acc k _=>?_)
  unfold stepW
  cases lkI l (k:Int) <;> cases B (k:Int) <;> rfl
def rowI (ts:List Triple) (i:Int):List Item:=(segS ts i.toNat).map itS
theorem rowI_colI (ts:List Triple) {i:Int} (h:0≤i):rowI ts i=colI ts i:=by
  unfold rowI colI segS
  rw [Int.toNat_of_nonneg h]
def sumsR (r rows cols:Int) (ts:List Triple) (v:Vec) (f:List Int) (o:Bool):List Sum×Int:=
  if ¬(1≤r∧r≤5) then ([],8) else if v.N≠cols then ([],4) else (sumsS r rows.toNat cols.toNat f o (fun i=>lkI (rowI ts i)) (lkI v.Items),0)
theorem sumsS_congr {r:Int} {n:Nat} {f:List Int} {o:Bool} {A A':Int→Int→Option Int} {B:Int→Option Int}:∀ {m:Nat},(∀ (i k:Nat),i<m→k<n→A i k=A' i k)→sumsS r m n f o A B=sumsS r m n f o A' B
  | 0,_=>rfl
  | m+1,h=>by
    rw [sumsS_succ,sumsS_succ,sumsS_congr (m:=m) fun i k hi hk=>h i k (by omega) hk]
    have:rowW r n (A m) B=rowW r n (A' m) B:=by
      unfold rowW
      refine foldl_same fun acc k hk=>?_
      unfold stepW
      rw [h m k (by omega) (List.mem_range.1 hk)]
    rw [this]
theorem ref13_Sums_ok {r rows cols:Int} {a:Rows} {ts:List Triple} {v:Vec} {f:List Int} {o:Bool} {Q:List Sum×Int→Prop} (hl:small a) (ha:sureS a=builtS rows cols ts) (h:Canon rows cols ts) (ht:∀ t∈ts,inI t.Val) (hv:VecP v) (hvv:∀ y∈v.Items,inI y.Val)
    (hf:okF f) (hQ:Q (sumsR r rows cols ts v f o)):ref13_Sums r a (denS v) f o Q:=by
  unfold ref13_Sums
  unfold sumsR at hQ
  have hr0:=h.r0; have hr1:=h.r1; have hc0:=h.c0; have hc1:=h.c1; have hlen:=h.len; have hvl:=hv.len
  refine ref_sure_ok hl ?_
  rw [ha]
  refine ref10_Back_ok hv (ref02_Is_ok (ifP_not (fun h'=>?_) (fun h'=>ifP_ne (fun hne=>?_) (fun he=>?_))))
  · rw [if_pos (of_decide_eq_false h')] at hQ; exact hQ
  · rw [if_neg (by have:=of_decide_eq_true h'; omega),if_pos (show v.N≠cols from hne)] at hQ; exact hQ
  have hr:=of_decide_eq_true h'
  have he:v.N=cols:=he
  rw [if_neg (by omega),if_neg (by omega)] at hQ
  show loopP _ (([]:List Sum),((0:Nat):Int))
  refine range_intro (fun (s:List Sum) i=>(s,i)) 0 rows.toNat (by omega) (fun m s=>s=sumsS r m cols.toNat f o (fun i=>lkI (rowI ts i)) (lkI v.Items)) (by omega) (by simp [sumsS]) (fun i s next _ hi hs hn=>?_) (fun s next hs=>?_)
  · have hB:(builtS rows cols ts).Rows=rows:=rfl
    have hsl:s.length≤i:=by subst hs; exact (sumsS_prop r cols.toNat f o (fun i=>lkI (rowI ts i)) (lkI v.Items) i).2.1
    have hsucc:=sumsS_succ r i cols.toNat f o (fun i=>lkI (rowI ts i)) (lkI v.Items)
    rw [←hs] at hsucc
    refine ifP_dec (fun _=>ref03_Has_ok hf (by unfold inI; omega) (ifP_eq (fun hb=>hn _ ?_) (fun hb=>?_))) (fun h'=>by rw [hB] at h'; omega)
    · have hno:¬askF f o i=true:=by unfold askF; rw [hb]; simp
      rw [hsucc,if_neg hno]; simp
    · have hask:askF f o i=true:=by unfold askF; rw [bne_iff_ne]; exact hb
      rw [if_pos hask] at hsucc
      obtain ⟨lo,hi',sg⟩:=h.seg i
      have e1:w64 ((i:Int)+1)=(i+1:Nat):=by rw [w64_id (by omega) (by omega)]; omega
      rw [e1] at hn ⊢
      refine start_idx (by omega) ?_
      rw [sg.lo]
      have g1:=sg.le; have g2:=sg.len
      have hrow:rowI ts i=((ts.take hi').drop lo).map itS:=by rw [sg.eq]; simp [rowI]
      have hin:IncI (rowI ts i)∧∀ x∈rowI ts i,0≤x.At∧x.At<cols.toNat:=by
        rw [rowI_colI ts (by omega)]
        refine ⟨colI_inc h.srt _,fun x hx=>?_⟩
        have:=h.inn _ (colI_mem.1 hx); unfold inT at this; simp only at this; omega
      have hfold:=row_fold (r:=r) (B:=lkI v.Items) hin.1 hin.2
      refine range_intro (s0:=(none:Option Wide)) (fun (s:Option Wide) k=>((s.getD ⟨0,0⟩).Hi,(s.getD ⟨0,0⟩).Lo,s.isSome,k)) lo hi' (by omega) (fun p acc=>acc=(((ts.take p).drop lo).map itS).foldl (stepI r (lkI v.Items)) none) (by omega) (by simp) (fun p acc next' hp1 hp2 hacc hn'=>?_) (fun acc next' hacc=>?_)
      · dsimp only
        have hpl:p<ts.length:=by omega
        have hok:∀ w,acc=some w→okW w:=by subst hacc; exact foldI_okW r _ _ none (fun w hw=>by cases hw)
        have hstep:(((ts.take (p+1)).drop lo).map itS).foldl (stepI r (lkI v.Items)) none=stepI r (lkI v.Items) acc (itS ts[p]):=by
          rw [ext_step hp1 hpl,List.map_append,List.foldl_append,←hacc]; rfl
        refine start_idx (by omega) ?_
        rw [sg.hi]
        refine ifP_dec (fun _=>?_) (fun h=>by omega)
        refine idxP_intro (by omega) (x:=ts[p].Col) (by simp [builtS,hpl]) (ref09_Get_ok (by omega) ?_)
        rw [sureV_id hv]
        cases hB':lkI v.Items ts[p].Col with
        | none=>
          refine ifP_pos rfl (hn' acc ?_)
          rw [hstep]; unfold stepI; simp only [itS,hB']
        | some x=>
          refine ifP_neg rfl (idxP_intro (by omega) (x:=ts[p].Val) (by simp [builtS,hpl]) (ref02_Mul_ok (ht _ (List.getElem_mem hpl)) (hvv _ (lkI_mem hB')) ?_))
          have hst:stepI r (lkI v.Items) acc (itS ts[p])=cmb r acc (some (mulW r ts[p].Val x)):=by unfold stepI; simp only [itS,hB']
          cases acc with
          | none=>exact ifP_neg rfl (hn' (some (mulW r ts[p].Val x)) (by rw [hstep,hst]; rfl))
          | some w=>exact ifP_pos rfl (ref02_Add_ok (hok w rfl) (mulW_okW _ _ _) (hn' (some (addW r w (mulW r ts[p].Val x))) (by rw [hstep,hst]; rfl)))
      · dsimp only
        refine start_idx (by omega) ?_
        rw [sg.hi]
        refine ifP_dec (fun h=>by omega) (fun _=>?_)
        rw [←hrow,hfold] at hacc
        cases acc with
        | none=>
          refine ifP_neg rfl (hn _ ?_)
          rw [hsucc,←hacc]; simp
        | some w=>
          refine ifP_pos rfl (appP_intro (by simp; omega) (hn _ ?_))
          rw [hsucc,←hacc]; rfl
  · refine ifP_dec (fun h'=>by have hB:(builtS rows cols ts).Rows=rows:=rfl; rw [hB] at h'; omega) (fun _=>?_)
    subst hs; exact hQ
theorem sums_turn {r rows cols:Int} {T:List Triple} (h:Canon cols rows T) (v:Vec) (f:List Int) (o:Bool):sumsR r rows cols (turnT rows T) v f o=sumsP r rows cols T v f o:=by
  unfold sumsR sumsP
  have e:sumsS r rows.toNat cols.toNat f o (fun i=>lkI (rowI (turnT rows T) i)) (lkI v.Items)=sumsS r rows.toNat cols.toNat f o (fun i k=>lkI (colI T k) i) (lkI v.Items):=by
    refine sumsS_congr fun i k _ _=>?_
    rw [rowI_colI _ (by omega)]
    have hs:=turn_srt rows h.srt
    have hm:∀ a:Int,(⟨(i:Int),(k:Int),a⟩:Triple)∈turnT rows T↔(⟨(k:Int),(i:Int),a⟩:Triple)∈T:=fun a=>turn_mem h _
    cases h1:lkI (colI (turnT rows T) i) k with
    | some a=>
      have:=(hm a).1 (colI_mem.1 (lkI_mem h1))
      exact (mem_lkI (colI_inc h.srt k) ((colI_mem (x:=⟨i,a⟩)).2 this)).symm
    | none=>
      cases h2:lkI (colI T k) i with
      | none=>rfl
      | some a=>
        have:=(hm a).2 (colI_mem.1 (lkI_mem h2))
        have:=mem_lkI (colI_inc hs i) ((colI_mem (x:=⟨k,a⟩)).2 this)
        rw [h1] at this; cases this
  rw [e]
def sizeS (x:Int):Int:=x % 40
theorem size_is {x:Int} {Q:Int→Prop} (h:inR .u8 x) (hQ:Q (sizeS x)):law07_Size x Q:=by
  unfold law07_Size
  have hb:=bounds_u8 h
  rw [w64_id (by omega) (by omega),Int.tmod_eq_emod_of_nonneg (by omega)]
  exact hQ
theorem sizeS_b (x:Int):0≤sizeS x∧sizeS x≤39:=by unfold sizeS; omega
theorem some_is {a0:Int×Int} {ts:List Triple} {Q:Rows→Prop} (h0:inR .u8 a0.1∧inR .u8 a0.2) (hv:∀ t∈ts,okTriple t)
    (hQ:∀ T,Canon (sizeS a0.1) (sizeS a0.2) T→(∀ t∈T,inI t.Val)→Q (builtS (sizeS a0.1) (sizeS a0.2) T)):law07_Some a0 ts Q:=by
  unfold law07_Some
  have r0:=sizeS_b a0.1; have c0:=sizeS_b a0.2
  refine size_is h0.1 (size_is h0.2 (few_ok fun ys hl hm=>?_))
  refine range_intro (fun (s:List Triple) i=>(s,i)) 0 ys.length (by omega) (fun i s=>s.length≤i∧∀ t∈s,inI t.Val) (by omega) (s0:=[]) ⟨by simp,by simp⟩ (fun i s next _ hi hm2 hn=>?_) (fun s next hm2=>?_)
  · obtain ⟨hs1,hs2⟩:=hm2
    dsimp only
    refine ifP_dec (fun _=>?_) (fun h=>by omega)
    have hskip:next (s,w64 ((i:Int)+1)):=hn s ⟨by omega,hs2⟩
    refine idxP_nat hi (ifP_dec (fun _=>hskip) (fun _=>ifP_dec (fun _=>hskip) (fun _=>ifP_eq (fun _=>hskip) (fun g1=>ifP_eq (fun _=>hskip) (fun g2=>⟨g1,g2,?_⟩)))))
    have hx:inI ys[i].Val:=inR_i64 (hv _ (hm _ (List.getElem_mem hi))).2.2
    refine appP_intro (by simp only [List.length_singleton]; omega) (hn _ ⟨by simp; omega,fun t ht=>?_⟩)
    rcases List.mem_append.1 ht with ht | ht
    · exact hs2 t ht
    · simp at ht; subst ht; exact hx
  · obtain ⟨hs1,hs2⟩:=hm2
    dsimp only
    refine ifP_dec (fun h=>by omega) (fun _=>?_)
    refine ref_Of_ok (by omega) hs2 ?_
    rcases of_cases (r:=1) (rows:=sizeS a0.1) (cols:=sizeS a0.2) hs2 with ⟨h1,h2⟩ | ⟨T,hT,he,_,_,_,_,hTe,_⟩
    · refine ifP_pos (by simpa using h2) ?_
      unfold ref07_Empty
      have e:w64 (sizeS a0.1+1)=sizeS a0.1+1:=w64_id (by omega) (by omega)
      rw [e]
      refine ⟨by omega,by omega,?_⟩
      have:=hQ [] ⟨r0.1,by omega,c0.1,by omega,by simp,.nil,by simp⟩ (by simp)
      unfold builtS at this
      have e2:(sizeS a0.1+1).toNat=(sizeS a0.1).toNat+1:=by omega
      rw [e2,rep_range]
      exact this
    · rw [he]
      refine ifP_neg (by simp) (hQ T hT fun t ht=>?_)
      rw [hTe] at ht
      unfold finS at ht
      split at ht
      · obtain ⟨p,_,rfl⟩:=List.mem_map.1 ht
        exact nar_inI p.2
      · simp at ht
def valR (r x:Int):Int:=if r=5 then x else if r=2 then bnd .i64 x 1 else if (bnd .i64 x 4611686018427387903).tmod 5=0 then 4611686018427387904 else bnd .i64 x 4611686018427387903
def facR (r x:Int):Int:=if r=5 then x.tmod 2147483648 else valR r x
theorem bnd_inI (x y:Int):inI (bnd .i64 x y):=by
  unfold bnd inI
  show -9223372036854775808≤w64 _∧w64 _≤9223372036854775807
  rw [w64_eq]; omega
theorem valR_inI {r x:Int} (h:inI x):inI (valR r x):=by
  unfold valR
  repeat' split
  · exact h
  · exact bnd_inI _ _
  · unfold inI; omega
  · exact bnd_inI _ _
theorem facR_inI {r x:Int} (h:inI x):inI (facR r x):=by
  unfold facR
  split
  · unfold inI at *
    rcases Int.lt_or_le x 0 with h' | h'
    · have:=Int.neg_tmod (a:=-x) (b:=2147483648)
      rw [Int.neg_neg] at this
      rw [this,Int.tmod_eq_emod_of_nonneg (by omega)]; omega
    · rw [Int.tmod_eq_emod_of_nonneg h']; omega
  · exact valR_inI h
theorem value_ok {r x:Int} {Q:Int→Prop} (hQ:Q (valR r x)):law02_Value r x Q:=by
  unfold law02_Value; unfold valR at hQ
  refine ifP_eq (fun h=>?_) (fun h=>ifP_eq (fun h2=>?_) (fun h2=>ifP_eq (fun h3=>?_) (fun h3=>?_)))
  · rwa [if_pos h] at hQ
  · rwa [if_neg h,if_pos h2] at hQ
  · rwa [if_neg h,if_neg h2,if_pos h3] at hQ
  · rwa [if_neg h,if_neg h2,if_neg h3] at hQ
theorem factor_ok {r x:Int} {Q:Int→Prop} (hQ:Q (facR r x)):law02_Factor r x Q:=by
  unfold law02_Factor; unfold facR at hQ
  refine ifP_eq (fun h=>?_) (fun h=>value_ok ?_)
  · rwa [if_pos h] at hQ
  · rwa [if_neg h] at hQ
def ringS (r:Int):Int:=if r<1∨5<r then 1 else r
theorem right_is {r:Int} {Q:Int→Prop} (hQ:Q (ringS r)):law13_Right r Q:=by
  unfold law13_Right; unfold ringS at hQ
  refine ifP_dec (fun h=>?_) (fun h=>ifP_dec (fun h2=>?_) (fun h2=>?_))
  · rwa [if_pos (.inl h)] at hQ
  · rwa [if_pos (.inr h2)] at hQ
  · rwa [if_neg (by omega)] at hQ
def vmap (g:Int→Int) (t:Triple):Triple:=⟨t.Row,t.Col,g t.Val⟩
theorem vmap_canon {rows cols:Int} {T:List Triple} (h:Canon rows cols T) (g:Int→Int):Canon rows cols (T.map (vmap g)) where
  r0:=h.r0
  r1:=h.r1
  c0:=h.c0
  c1:=h.c1
  len:=by rw [List.length_map]; exact h.len
  srt:=by unfold Srt; rw [List.pairwise_map]; exact h.srt
  inn:=by
    intro t ht
    obtain ⟨x,hx,rfl⟩:=List.mem_map.1 ht
    exact h.inn x hx
theorem vmap_built (rows cols:Int) (T:List Triple) (g:Int→Int):builtS rows cols (T.map (vmap g)) = { builtS rows cols T with Val:=T.map fun t=>g t.Val }:=by
  unfold builtS
  have e:below (T.map (vmap g))=below T:=by
    funext j
    unfold below
    rw [List.countP_map]; rfl
  rw [e,List.map_map,List.map_map]; rfl
theorem task_mat2 {a:Law13_Task} {Q:Rows→Prop} (h1:inR .u8 a.Size.1∧inR .u8 a.Size.2) (h2:∀ t∈a.L,okTriple t) (hQ:∀ T,Canon (sizeS a.Size.1) (sizeS a.Size.2) T→(∀ t∈T,inI t.Val)→Q (builtS (sizeS a.Size.1) (sizeS a.Size.2) T)):law13_Task_Matrix a Q:=by
  unfold law13_Task_Matrix
  refine some_is h1 h2 fun T hT hv=>right_is ?_
  have hTl:=hT.len
  have hVl:(builtS (sizeS a.Size.1) (sizeS a.Size.2) T).Val=T.map (·.Val):=rfl
  refine map_loop (xs:=(builtS (sizeS a.Size.1) (sizeS a.Size.2) T).Val) (f:=facR (ringS a.Ring)) (by rw [hVl,List.length_map]; omega) (fun i s next hi hs hn=>?_) (fun next s hs=>?_)
  · have hi':i<T.length:=by rw [hVl,List.length_map] at hi; exact hi
    exact ifP_dec (fun _=>idxP_nat hi (factor_ok (appP_intro (by simp; omega) hn))) (fun h=>by omega)
  · refine ifP_dec (fun h=>by omega) (fun _=>?_)
    have:=hQ (T.map (vmap (facR (ringS a.Ring)))) (vmap_canon hT _) (fun t ht=>by
      obtain ⟨x,hx,rfl⟩:=List.mem_map.1 ht
      exact facR_inI (hv x hx))
    rw [vmap_built] at this
    rw [hVl,List.map_map] at hs
    subst hs
    exact this
theorem task_mat_ok {a:Law13_Task} {Q:Rows→Prop} (h:okLaw13_Task a) (hQ:∀ T,Canon (sizeS a.Size.1) (sizeS a.Size.2) T→(∀ t∈T,inI t.Val)→Q (builtS (sizeS a.Size.1) (sizeS a.Size.2) T)):law13_Task_Matrix a Q:=task_mat2 h.2.1 h.2.2.1.1 hQ
def kvV (x:Item):Key×Int:=((0,x.At),x.Val)
def e0V (x:Item):Edge:=⟨0,x.At,x.Val⟩
theorem ref09_Of_one {n:Int} {l:List Item} {Q:Vec×Int→Prop} (h0:0≤n) (h1:n≤4096) (hl:l.length≤1000000) (hi:∀ x∈l,0≤x.At∧x.At<n) (hv:∀ x∈l,inI x.Val)
    (hQ:∀ v:Vec,v.N=n→VecP v→(∀ x∈v.Items,inI x.Val)→Q (v,0)):ref09_Of 1 n l Q:=by
  unfold ref09_Of
  refine ref02_Is_ok (ifP_neg (by decide) (ifP_dec (fun h=>by omega) (fun _=>ifP_dec (fun h=>by omega) (fun _=>?_))))
  refine map_loop (xs:=l) (f:=e0V) (by omega) (fun i s next hk hs hn=>?_) (fun next s hs=>?_)
  · have hx:=hi _ (List.getElem_mem hk)
    exact ifP_dec (fun _=>idxP_nat hk (ifP_dec (fun h=>by omega) (fun _=>idxP_nat hk (ifP_dec (fun h=>by omega) (fun _=>idxP_nat hk (idxP_nat hk (appP_intro (by simp; omega) hn))))))) (fun h=>by omega)
  · refine ifP_dec (fun h=>by omega) (fun _=>?_)
    have hk:s.map kvE=l.map kvV:=by subst hs; rw [List.map_map]; rfl
    have hkv:∀ t∈l.map kvV,inI t.2:=fun t ht=>by obtain ⟨x,hx,rfl⟩:=List.mem_map.1 ht; exact hv x hx
    refine ref_combine_ok (by omega) (by subst hs; simp; omega) (fun t ht=>by subst hs; obtain ⟨x,hx,rfl⟩:=List.mem_map.1 ht; exact hv x hx) ?_
    rw [hk,fin_one hkv]
    refine ifP_neg rfl ?_
    dsimp only
    have hsl:=(SC_prop 1 (l.map kvV) hkv).1
    rw [List.length_map] at hsl
    refine map_loop (xs:=(SC 1 (l.map kvV)).map fun p=>mkE p.1 (narS p.2).1) (f:=fun e:Edge=>(⟨e.To,e.W⟩:Item)) (by simp; omega) (fun i s' next hk hs' hn=>?_) (fun next s' hs'=>?_)
    · have hk':i<(SC 1 (l.map kvV)).length:=by simpa using hk
      exact ifP_dec (fun _=>idxP_nat hk (idxP_nat hk (appP_intro (by simp; omega) hn))) (fun h=>by omega)
    · refine ifP_dec (fun h=>by omega) (fun _=>hQ _ rfl ?_ ?_)
      · have hkey:∀ p∈SC 1 (l.map kvV),p.1.1=0∧0≤p.1.2∧p.1.2<n:=by
          intro p hp
          obtain ⟨t,ht,e⟩:=SC_keys hp
          obtain ⟨x,hx,rfl⟩:=List.mem_map.1 ht
          rw [←e]
          have:=hi x hx
          exact ⟨rfl,this.1,this.2⟩
        refine ⟨h0,h1,?_,fun x hx=>?_⟩
        · subst hs'
          unfold IncI
          rw [List.map_map,List.pairwise_map]
          refine List.Pairwise.imp_of_mem (fun {a b} ha hb hab=>?_) (SC_srt 1 (l.map kvV))
          have:=hkey a ha; have:=hkey b hb
          unfold ltK at hab
          simp only [Function.comp,mkE] at hab ⊢; omega
        · subst hs'
          simp only [List.map_map,List.mem_map] at hx
          obtain ⟨p,hp,rfl⟩:=hx
          exact (hkey p hp).2
      · subst hs'
        intro x hx
        simp only [List.map_map,List.mem_map] at hx
        obtain ⟨p,hp,rfl⟩:=hx
        exact nar_inI p.2
theorem vsome_ok {n:Int} {l:List Item} {Q:Vec→Prop} (h:inR .u8 n) (hv:∀ x∈l,okItem x) (hQ:∀ v:Vec,v.N=n % 60→VecP v→(∀ x∈v.Items,inI x.Val)→Q v):law09_Some n l Q:=by
  unfold law09_Some
  have hb:=bounds_u8 h
  have e:(w64 n).tmod 60=n % 60:=by rw [w64_id (by omega) (by omega),Int.tmod_eq_emod_of_nonneg (by omega)]
  rw [e]
  refine join_intro (fun s:List Item=>s.length≤60∧∀ x∈s,(0≤x.At∧x.At<n % 60)∧inI x.Val) ?_ ?_
  · rintro s ⟨hs1,hs2⟩
    exact ref09_Of_one (by omega) (by omega) (by omega) (fun x hx=>(hs2 x hx).1) (fun x hx=>(hs2 x hx).2) fun v h1 h2 h3=>hQ v h1 h2 h3
  · intro k hk
    refine loop_intro (fun s:List Item×Int=>∃ i:Nat,s.2=i∧i≤60∧s.1.length≤i∧∀ x∈s.1,(0≤x.At∧x.At<n % 60)∧inI x.Val) (fun s=>60 - s.2.toNat) ⟨0,rfl,by omega,by simp,by simp⟩ ?_
    rintro ⟨s,j⟩ next ⟨i,hj,hi60,hs1,hs2⟩ hn
    simp only at hj hs1 hs2 ⊢
    subst hj
    have hstop:k s:=hk s ⟨by omega,hs2⟩
    have ei:w64 ((i:Int)+1)=((i+1:Nat):Int):=by rw [w64_id (by omega) (by omega)]; omega
    rw [ei]
    refine ifP_dec (fun h1=>ifP_dec (fun h2=>ifP_dec (fun h3=>?_) (fun _=>hstop)) (fun _=>hstop)) (fun _=>hstop)
    have hil:i<l.length:=by omega
    refine idxP_nat hil (ifP_dec (fun h4=>idxP_nat hil ⟨by omega,idxP_nat hil (appP_intro (by simp; omega) (hn _ ⟨i+1,rfl,by omega,by simp; omega,fun x hx=>?_⟩ (by simp only; omega)))⟩) (fun h4=>hn _ ⟨i+1,rfl,by omega,by simp only; omega,hs2⟩ (by simp only; omega)))
    rcases List.mem_append.1 hx with hx | hx
    · exact hs2 x hx
    · simp only [List.mem_singleton] at hx
      subst hx
      simp only
      rw [Int.tmod_eq_emod_of_nonneg h4]
      exact ⟨⟨Int.emod_nonneg _ (by omega),Int.emod_lt_of_pos _ (by omega)⟩,inR_i64 (hv _ (List.getElem_mem hil)).2⟩
theorem inR_small {x:Int} (h0:0≤x) (h1:x≤39):inR .u8 x:=by
  have:∀ n:Fin 40,inR .u8 (n.val:Int):=by unfold inR; decide
  have:=this ⟨x.toNat,by omega⟩
  simpa only [Int.toNat_of_nonneg h0] using this
theorem task_vec_ok {a:Law13_Task} {l:List Item} {Q:Vec→Prop} (h:okLaw13_Task a) (hl:∀ x∈l,okItem x) (hQ:∀ v:Vec,v.N=sizeS a.Size.2→VecP v→(∀ x∈v.Items,inI x.Val)→Q v):law13_Task_Vector a l Q:=by
  unfold law13_Task_Vector
  have hb:=sizeS_b a.Size.2
  have e:IntKind.wrap .u8 (sizeS a.Size.2)=sizeS a.Size.2:=by
    simp only [IntKind.wrap,IntKind.bits,IntKind.signed]; simp; omega
  refine size_is h.2.1.2 ?_
  rw [e]
  refine vsome_ok (inR_small hb.1 hb.2) hl fun v h1 h2 h3=>?_
  have hvl:=h2.len
  refine map_loop (xs:=v.Items) (f:=fun x=>(⟨x.At,valR (ringS a.Ring) x.Val⟩:Item)) (by omega) (fun i s next hi hs hn=>?_) (fun next s hs=>?_)
  · exact ifP_dec (fun _=>idxP_nat hi (idxP_nat hi (right_is (value_ok (appP_intro (by simp; omega) hn))))) (fun h=>by omega)
  · refine ifP_dec (fun h=>by omega) (fun _=>hQ _ (by rw [h1]; omega) ?_ ?_)
    · subst hs
      refine ⟨h2.n0,h2.n1,?_,fun x hx=>?_⟩
      · unfold IncI; rw [List.pairwise_map]; exact h2.inc
      · obtain ⟨y,hy,rfl⟩:=List.mem_map.1 hx; exact h2.ins y hy
    · subst hs
      intro x hx
      obtain ⟨y,hy,rfl⟩:=List.mem_map.1 hx; exact valR_inI (h3 y hy)
theorem ref09_Same_ok {v:Vec} {Q:Bool→Prop} (hl:v.Items.length≤1000000000000) (hQ:Q true):ref09_Same v v Q:=by
  unfold ref09_Same
  refine ifP_pos (by simp) (eqIt_ok hl ?_)
  rw [decide_eq_true rfl]; exact hQ
theorem nil_okF:okF []:=by simp [okF]
theorem both_cons (r:Int) (x y:Sum) (a b:List Sum):bothS r (x :: a) (y :: b)=if x.At<y.At then x :: bothS r a (y :: b) else if y.At<x.At then y :: bothS r (x :: a) b else ⟨x.At,addW r x.Val y.Val⟩ :: bothS r a b:=by rw [bothS]
theorem both_nil' (r:Int) (b:List Sum):bothS r [] b=b:=by rw [bothS]
theorem ref14_both_ok {r:Int} {a b:List Sum} {Q:List Sum→Prop} (ha:okS a) (hb:okS b) (hl:a.length≤100000000∧b.length≤100000000) (hQ:Q (bothS r a b)):ref14_both r a b Q:=by
  unfold ref14_both
  refine loop_intro (fun s:List Sum×Int×Int=>∃ i k:Nat,s.2.1=i∧s.2.2=k∧i≤a.length∧k≤b.length∧s.1.length≤i+k∧s.1++bothS r (a.drop i) (b.drop k)=bothS r a b) (fun s=>(a.length - s.2.1.toNat)+(b.length - s.2.2.toNat)) ⟨0,0,rfl,rfl,by omega,by omega,by simp,by simp⟩ ?_
  rintro ⟨out,i',k'⟩ next ⟨i,k,hi,hk,hil,hkl,hol,he⟩ hn
  simp only at hi hk hol he ⊢
  subst hi; subst hk
  have ei:w64 ((i:Int)+1)=((i+1:Nat):Int):=by rw [w64_id (by omega) (by omega)]; omega
  have ek:w64 ((k:Int)+1)=((k+1:Nat):Int):=by rw [w64_id (by omega) (by omega)]; omega
  simp only [ei,ek]
  refine join_intro (fun _=>i<a.length∨k<b.length) ?_ ?_
  · rintro _ hor
    refine join_intro (fun t:Bool=>t=true↔(k=b.length∨∃ (h1:i<a.length) (h2:k<b.length),a[i].At<b[k].At)) ?_ ?_
    · rintro t ht
      refine ⟨fun htt=>?_,fun htf=>?_⟩
      · have h:=ht.1 htt
        have hia:i<a.length:=by
          rcases h with h | ⟨h1,_,_⟩
          · omega
          · exact h1
        refine idxP_nat hia (appP_intro (by simp; omega) (hn _ ⟨i+1,k,rfl,rfl,by omega,hkl,by simp; omega,?_⟩ (by simp only [Int.toNat_natCast]; omega)))
        simp only
        rw [←he,List.drop_eq_getElem_cons hia]
        rcases h with h | ⟨_,h2,h3⟩
        · rw [List.drop_of_length_le (l:=b) (by omega),both_nil,both_nil]; simp
        · rw [List.drop_eq_getElem_cons h2,both_cons,if_pos h3]; simp
      · have hnot:¬(k=b.length∨∃ (h1:i<a.length) (h2:k<b.length),a[i].At<b[k].At):=fun h=>by rw [ht.2 h] at htf; cases htf
        have hkb:k<b.length:=by
          rcases Nat.lt_or_ge k b.length with h | h
          · exact h
          · exact absurd (.inl (by omega)) hnot
        refine join_intro (fun t:Bool=>t=true↔(i=a.length∨∃ (h1:i<a.length),b[k].At<a[i].At)) ?_ ?_
        · rintro t2 ht2
          refine ⟨fun htt=>?_,fun htf2=>?_⟩
          · have h:=ht2.1 htt
            refine idxP_nat hkb (appP_intro (by simp; omega) (hn _ ⟨i,k+1,rfl,rfl,hil,by omega,by simp; omega,?_⟩ (by simp only [Int.toNat_natCast]; omega)))
            simp only
            rw [←he,List.drop_eq_getElem_cons hkb]
            rcases h with h | ⟨h2,h3⟩
            · rw [List.drop_of_length_le (l:=a) (by omega),both_nil',both_nil']; simp
            · rw [List.drop_eq_getElem_cons h2,both_cons,if_neg (by omega),if_pos h3]; simp
          · have hnot2:¬(i=a.length∨∃ (h1:i<a.length),b[k].At<a[i].At):=fun h=>by rw [ht2.2 h] at htf2; cases htf2
            have hia:i<a.length:=by
              rcases Nat.lt_or_ge i a.length with h | h
              · exact h
              · exact absurd (.inl (by omega)) hnot2
            refine idxP_nat hia (idxP_nat hia (idxP_nat hkb (ref02_Add_ok (ha _ (List.getElem_mem hia)) (hb _ (List.getElem_mem hkb)) (appP_intro (by simp; omega) (hn _ ⟨i+1,k+1,rfl,rfl,by omega,by omega,by simp; omega,?_⟩ (by simp only [Int.toNat_natCast]; omega))))))
            simp only
            rw [←he,List.drop_eq_getElem_cons hia,List.drop_eq_getElem_cons hkb,both_cons,if_neg (fun h=>hnot (.inr ⟨hia,hkb,h⟩)),if_neg (fun h=>hnot2 (.inr ⟨hia,h⟩))]; simp
        · intro k' hk'
          refine ifP_eq (fun h=>hk' _ ?_) (fun h=>?_)
          · simp; left; omega
          · have hia:i<a.length:=by omega
            refine idxP_nat hkb (idxP_nat hia (hk' _ ?_))
            simp only [decide_eq_true_eq]
            refine ⟨fun h3=>.inr ⟨hia,h3⟩,fun h3=>?_⟩
            rcases h3 with h3 | ⟨_,h3⟩
            · omega
            · exact h3
    · intro k' hk'
      refine ifP_eq (fun h=>hk' _ ?_) (fun h=>ifP_dec (fun h2=>?_) (fun h2=>hk' _ ?_))
      · simp; left; omega
      · have hia:i<a.length:=by omega
        have hkb:k<b.length:=by omega
        refine idxP_nat hia (idxP_nat hkb (hk' _ ?_))
        simp only [decide_eq_true_eq]
        refine ⟨fun h3=>.inr ⟨hia,hkb,h3⟩,fun h3=>?_⟩
        rcases h3 with h3 | ⟨_,_,h3⟩
        · omega
        · exact h3
      · refine ⟨fun h3=>(by cases h3),fun h3=>?_⟩
        rcases h3 with h3 | ⟨h3,_,_⟩ <;> omega
  · intro k' hk'
    refine ifP_dec (fun h=>hk' _ (.inl (by omega))) (fun h=>ifP_dec (fun h2=>hk' _ (.inr (by omega))) (fun h2=>?_))
    rw [List.drop_of_length_le (l:=a) (by omega),List.drop_of_length_le (l:=b) (by omega),both_nil,List.append_nil] at he
    rw [he]; exact hQ
theorem ref14_Merge_ok {r:Int} {L:List (List Sum)} {Q:List Sum×Int→Prop} (hL:L.length≤1000) (hs:∀ l∈L,l.length≤1000) (hok:∀ l∈L,okS l) (hQ:Q (mergeP r L)):ref14_Merge r L Q:=by
  unfold ref14_Merge
  unfold mergeP at hQ
  refine ref02_Is_ok (ifP_not (fun h=>?_) (fun h=>?_))
  · rw [if_pos (of_decide_eq_false h)] at hQ; exact hQ
  have hr:=of_decide_eq_true h
  rw [if_neg (by omega)] at hQ
  refine scan_intro L.length (by omega) (fun n=>∀ i (hi:i<L.length),i<n→Rise L[i]) (fun i hi h=>by omega) (fun i next hi hR hn=>?_) (fun next hR=>?_)
  · refine ifP_dec (fun _=>?_) (fun h=>by omega)
    have hli:=hs _ (List.getElem_mem hi)
    have hgood:Rise L[i]→next (w64 ((i:Int)+1)):=fun hg=>hn fun j hj hjn=>by
      by_cases e:j=i
      · subst e; exact hg
      · exact hR j hj (by omega)
    show loopP _ ((1:Nat):Int)
    by_cases hz:L[i].length=0
    · refine ⟨1,idxP_nat hi (ifP_dec (fun h=>by omega) (fun _=>hgood ?_))⟩
      rw [List.eq_nil_of_length_eq_zero hz]; exact .nil
    refine range_intro (s0:=()) (fun (_:Unit) i=>i) 1 L[i].length (by omega) (fun k _=>∀ (j:Nat) (hj:j+1<L[i].length),j+1<k→L[i][j].At<L[i][j+1].At) (by omega) (fun j hj h=>by omega) (fun k _ next' h1' hk hR' hn'=>?_) (fun _ next' hR'=>?_)
    · have e:w64 ((k:Int) - 1)=((k - 1:Nat):Int):=by rw [w64_id (by omega) (by omega)]; omega
      rw [e]
      refine idxP_nat hi (ifP_dec (fun _=>idxP_nat hi (idxP_nat hk (idxP_nat hi (idxP_nat (by omega) (ifP_dec (fun h'=>?_) (fun h'=>hn' () fun j hj hjn=>?_)))))) (fun h=>by omega))
      · have:¬Rise L[i]:=fun hr=>by have:=hr.adj hk (i:=k - 1) (by omega); omega
        rw [if_pos ⟨_,List.getElem_mem hi,this⟩] at hQ; exact hQ
      · by_cases e':j+1=k
        · subst e'; simp only [Nat.add_sub_cancel] at h'; omega
        · exact hR' j hj (by omega)
    · exact idxP_nat hi (ifP_dec (fun h=>by omega) (fun _=>hgood (rise_adj fun j hj=>hR' j hj (by omega))))
  · refine ifP_dec (fun h=>by omega) (fun _=>?_)
    have hrise:∀ l∈L,Rise l:=fun l hl=>by
      obtain ⟨i,hi,rfl⟩:=List.mem_iff_getElem.1 hl
      exact hR i hi hi
    rw [if_neg (by rintro ⟨l,hl,hn⟩; exact hn (hrise l hl))] at hQ
    refine range_intro (s0:=([]:List Sum)) (fun (s:List Sum) i=>(s,i)) 0 L.length (by omega) (fun k s=>s=mergeS r (L.take k)) (by omega) (by simp [mergeS]) (fun k s next' _ hk hs' hn'=>?_) (fun s next' hs'=>?_)
    · obtain ⟨p1,p2,p3,p4⟩:=merge_prop r L hrise k (by omega)
      have ht:∀ M:List (List Sum),(∀ l∈M,l.length≤1000)→total M≤M.length*1000:=by
        intro M
        induction M with
        | nil=>intro _; simp [total]
        | cons x M ih=>intro hM; have h1:=ih fun l hl=>hM l (by simp [hl]); have h2:=hM x (by simp); unfold total at h1 ⊢; simp only [List.map_cons,List.foldr_cons,List.length_cons]; omega
      have htk:=ht (L.take k) fun l hl=>hs l (List.mem_of_mem_take hl)
      rw [List.length_take] at htk
      subst hs'
      have hm1:(mergeS r (L.take k)).length≤100000000:=by
        have:min k L.length≤1000:=by omega
        omega
      refine ifP_dec (fun _=>idxP_nat hk (ref14_both_ok (p3 hok) (hok _ (List.getElem_mem hk)) ⟨hm1,by have:=hs _ (List.getElem_mem hk); omega⟩ (hn' _ ?_))) (fun h=>by omega)
      rw [List.take_succ_eq_append_getElem hk]
      unfold mergeS
      rw [List.foldl_append]; rfl
    · rw [List.take_length] at hs'
      subst hs'
      exact ifP_dec (fun h=>by omega) (fun _=>hQ)
theorem leW_trans {a b c:Wide} (h:leW a b) (h':leW b c):leW a c:=by unfold leW at *; omega
def minW (a b:Wide):Wide:=if leW a b then a else b
theorem minW_assoc (a b c:Wide):minW (minW a b) c=minW a (minW b c):=by
  unfold minW
  by_cases h1:leW a b <;> by_cases h2:leW b c <;> by_cases h3:leW a c <;> simp only [h1,h2,h3,if_true,if_false]
  · exact absurd (leW_trans h1 h2) h3
  · exfalso; unfold leW at *; omega
theorem addW_assoc {r:Int} {a b c:Wide} (ha:okW a) (hb:okW b) (hc:okW c):addW r (addW r a b) c=addW r a (addW r b c):=by
  by_cases h:r=1∨r=3∨r=4
  · have e:∀ a b,addW r a b=minW a b:=fun a b=>by unfold addW minW; rw [if_pos h]
    simp only [e]; exact minW_assoc a b c
  · by_cases h2:r=2
    · have e:∀ a b,addW r a b=if a=⟨0,0⟩∧b=⟨0,0⟩ then ⟨0,0⟩ else ⟨0,1⟩:=fun a b=>by unfold addW; rw [if_neg h,if_pos h2]
      have n1:(⟨0,1⟩:Wide)≠⟨0,0⟩:=by decide
      simp only [e]
      by_cases e1:a=⟨0,0⟩ <;> by_cases e2:b=⟨0,0⟩ <;> by_cases e3:c=⟨0,0⟩ <;> simp [e1,e2,e3]
    · by_cases h5:r=5
      · subst h5
        rw [okW_toZ ha,okW_toZ hb,okW_toZ hc,ofZ_add,ofZ_add,ofZ_add,ofZ_add,Int.add_assoc]
      · unfold addW
        simp only [if_neg h,if_neg h2,if_neg h5]
def okO (o:Option Wide):Prop:=∀ w,o=some w→okW w
theorem cmb_assoc {r:Int} {a b c:Option Wide} (ha:okO a) (hb:okO b) (hc:okO c):cmb r (cmb r a b) c=cmb r a (cmb r b c):=by
  cases a with
  | none=>cases b <;> rfl
  | some x=>cases b with
    | none=>cases c <;> rfl
    | some y=>cases c with
      | none=>rfl
      | some z=>simp only [cmb]; rw [addW_assoc (ha x rfl) (hb y rfl) (hc z rfl)]
theorem rowW_succ (r:Int) (n:Nat) (A B:Int→Option Int):rowW r (n+1) A B=stepW r A B (rowW r n A B) n:=by
  unfold rowW; rw [List.range_succ,List.foldl_append]; rfl
theorem rowW_add (r:Int) (k:Nat) (A B:Int→Option Int):∀ m:Nat,rowW r (k+m) A B=cmb r (rowW r k A B) (rowW r m (fun j=>A (j+k)) (fun j=>B (j+k)))
  | 0=>by rw [Nat.add_zero,show rowW r 0 (fun j=>A (j+k)) (fun j=>B (j+k))=none from rfl,cmb_none]
  | m+1=>by
    rw [←Nat.add_assoc,rowW_succ,rowW_succ,rowW_add r k A B m]
    have ho:=rowW_okW r m (fun j=>A (j+k)) (fun j=>B (j+k))
    generalize rowW r m (fun j=>A (j+k)) (fun j=>B (j+k))=o at ho ⊢
    unfold stepW
    rw [show (((k+m:Nat):Int))=(m:Int)+k by omega]
    simp only
    cases hA:A ((m:Int)+k) with
    | none=>rfl
    | some a=>cases hB:B ((m:Int)+k) with
      | none=>rfl
      | some x=>
        have hm:okO (some (mulW r a x)):=fun w hw=>by
          have:=Option.some.inj hw
          subst this; exact mulW_okW _ _ _
        exact cmb_assoc (rowW_okW r k A B) ho hm
theorem rowW_congr {r:Int} {n:Nat} {A A' B B':Int→Option Int} (hA:∀ j:Nat,j<n→A j=A' j) (hB:∀ j:Nat,j<n→B j=B' j):rowW r n A B=rowW r n A' B':=by
  unfold rowW
  refine foldl_same fun acc k hk=>?_
  have hk:=List.mem_range.1 hk
  unfold stepW
  rw [hA k hk,hB k hk]
theorem lkI_iff {l:List Item} (h:IncI l) {i a:Int}:lkI l i=some a↔(⟨i,a⟩:Item)∈l:=⟨lkI_mem,fun hm=>mem_lkI h hm⟩
theorem opt_ext {x y:Option Int} (h:∀ a,x=some a↔y=some a):x=y:=by
  cases x with
  | none=>cases y with
    | none=>rfl
    | some b=>have:=(h b).2 rfl; cases this
  | some a=>exact ((h a).1 rfl).symm
def partV (u:Vec) (a b:Int):Vec:=
  if (if u.N<b then u.N else b)≤(if 0 > a then 0 else a) then zV
  else ⟨(if u.N<b then u.N else b) - (if 0 > a then 0 else a),(u.Items.filter fun x=>decide ((if 0 > a then 0 else a)≤x.At∧x.At<(if u.N<b then u.N else b))).map fun x=>⟨x.At - (if 0 > a then 0 else a),x.Val⟩⟩
theorem ref09_Part_ok {v:Vec} {a b:Int} {Q:Vec→Prop} (hl:v.Items.length≤1000000000) (hQ:Q (partV (sureV v) a b)):ref09_Part v a b Q:=by
  unfold ref09_Part
  have hu:=sureV_ok v
  refine ref09_Sure_ok hl ?_
  generalize sureV v=u at hu hQ
  have hul:=hu.len; have:=hu.n0; have:=hu.n1
  unfold partV at hQ
  generalize hf:(if 0 > a then 0 else a)=f at *
  generalize ht:(if u.N<b then u.N else b)=t at *
  have hf0:0≤f:=by subst hf; split <;> omega
  have htN:t≤u.N:=by subst ht; split <;> omega
  refine ifP_dec (fun h=>?_) (fun h=>?_)
  · rw [if_pos h] at hQ; exact hQ
  · rw [if_neg h] at hQ
    refine range_intro (s0:=([]:List Item)) (fun (s:List Item) i=>(s,i)) 0 u.Items.length (by omega) (fun k s=>s=((u.Items.take k).filter fun x=>decide (f≤x.At∧x.At<t)).map fun x=>⟨x.At - f,x.Val⟩) (by omega) (by simp) (fun k s next _ hk hs hn=>?_) (fun s next hs=>?_)
    · have hx:=hu.ins _ (List.getElem_mem hk)
      have hsl:s.length≤k:=by
        subst hs; rw [List.length_map]
        have:=List.length_filter_le (fun x:Item=>decide (f≤x.At∧x.At<t)) (u.Items.take k)
        rw [List.length_take] at this; omega
      refine ifP_dec (fun _=>join_intro (fun c:Bool=>c=decide (f≤u.Items[k].At∧u.Items[k].At<t)) ?_ ?_) (fun h=>by omega)
      · rintro c rfl
        refine ifP_dec (fun hc=>idxP_nat hk (idxP_nat hk (appP_intro (by simp; omega) (hn _ ?_)))) (fun hc=>hn _ ?_)
        · rw [w64_id (by omega) (by omega),List.take_succ_eq_append_getElem hk,List.filter_append,List.map_append,hs,List.filter_cons_of_pos (by simpa using hc)]; rfl
        · rw [List.take_succ_eq_append_getElem hk,List.filter_append,List.map_append,hs,List.filter_cons_of_neg (by simpa using hc)]; simp
      · intro k' hk'
        refine idxP_nat hk (ifP_dec (fun h1=>idxP_nat hk (hk' _ ?_)) (fun h1=>hk' _ ?_))
        · simp [h1]
        · simp [h1]
    · rw [List.take_length] at hs
      subst hs
      refine ifP_dec (fun h=>by omega) (fun _=>?_)
      rw [w64_id (by omega) (by omega)]; exact hQ
theorem part_is {u:Vec} (h:VecP u) {a b:Int} (h0:0≤a) (h1:a≤b) (h2:b≤u.N):partV u a b=⟨b - a,(u.Items.filter fun x=>decide (a≤x.At∧x.At<b)).map fun x=>⟨x.At - a,x.Val⟩⟩:=by
  unfold partV
  have e1:(if 0 > a then 0 else a)=a:=if_neg (by omega)
  have e2:(if u.N<b then u.N else b)=b:=if_neg (by omega)
  rw [e1,e2]
  split
  · have:b=a:=by omega
    subst this
    rw [List.filter_eq_nil_iff.2 (fun x _=>by simp only [decide_eq_true_eq]; omega)]
    simp [zV]
  · rfl
theorem part_prop {u:Vec} (h:VecP u) {a b:Int} (h0:0≤a) (h1:a≤b) (h2:b≤u.N):VecP (partV u a b)∧(partV u a b).N=b - a∧(∀ j,0≤j→j<b - a→lkI (partV u a b).Items j=lkI u.Items (j+a))∧((∀ x∈u.Items,inI x.Val)→∀ x∈(partV u a b).Items,inI x.Val):=by
  rw [part_is h h0 h1 h2]
  have hn1:=h.n1
  have hmem:∀ x:Item,x∈((u.Items.filter fun x=>decide (a≤x.At∧x.At<b)).map fun x=>(⟨x.At - a,x.Val⟩:Item))↔(⟨x.At+a,x.Val⟩:Item)∈u.Items∧0≤x.At∧x.At+a<b:=by
    intro x
    simp only [List.mem_map,List.mem_filter,decide_eq_true_eq]
    constructor
    · rintro ⟨y,⟨hy,hc⟩,rfl⟩
      simp only
      rw [show y.At - a+a=y.At by omega]
      exact ⟨hy,by omega,by omega⟩
    · rintro ⟨hy,hc⟩
      refine ⟨_,⟨hy,by simp only; omega⟩,?_⟩
      cases x; simp only [Item.mk.injEq]; exact ⟨by omega,trivial⟩
  have hinc:IncI ((u.Items.filter fun x=>decide (a≤x.At∧x.At<b)).map fun x=>(⟨x.At - a,x.Val⟩:Item)):=by
    unfold IncI
    rw [List.pairwise_map]
    exact List.Pairwise.imp (fun {x y} hxy=>by simp only; omega) (List.Pairwise.filter _ h.inc)
  refine ⟨⟨by simp only; omega,by simp only; omega,hinc,fun x hx=>by have:=(hmem x).1 hx; simp only; omega⟩,rfl,fun j hj0 hj1=>opt_ext fun w=>?_,fun hv x hx=>?_⟩
  · rw [lkI_iff hinc,lkI_iff h.inc,hmem]
    exact ⟨fun hh=>hh.1,fun hh=>⟨hh,by simp only; omega⟩⟩
  · have:=hv _ ((hmem x).1 hx).1
    exact this
def mayP (n k:Int):Prop:=(0≤n∧n≤4096)∧(1≤k∧k≤8)
instance (n k:Int):Decidable (mayP n k):=by unfold mayP; infer_instance
def clI (i k:Int):Int:=if i<0 then 0 else if k<i then k else i
def lowS (n k i:Int):Int:=if mayP n k then clI i k*n / k else 0
theorem clI_b {i k:Int} (h:1≤k):0≤clI i k∧clI i k≤k:=by unfold clI; split <;> (try split) <;> omega
theorem clI_mono {i j k:Int} (h:i≤j) (hk:1≤k):clI i k≤clI j k:=by unfold clI; split <;> split <;> (try split) <;> (try split) <;> omega
theorem mul_b {i k n:Int} (hk:1≤k∧k≤8) (hn:0≤n∧n≤4096) (hi:0≤i∧i≤k):0≤i*n∧i*n≤32768:=by
  refine ⟨Int.mul_nonneg hi.1 hn.1,?_⟩
  have:=Int.mul_le_mul (show i≤8 by omega) hn.2 hn.1 (by omega)
  omega
theorem low_mono {n k i j:Int} (h:i≤j):lowS n k i≤lowS n k j:=by
  unfold lowS
  by_cases hm:mayP n k
  · rw [if_pos hm,if_pos hm]
    exact Int.ediv_le_ediv (by have:=hm.2; omega) (Int.mul_le_mul_of_nonneg_right (clI_mono h hm.2.1) hm.1.1)
  · rw [if_neg hm,if_neg hm]; exact Int.le_refl _
theorem low_zero (n k:Int):lowS n k 0=0:=by
  unfold lowS clI; split
  · rename_i hm
    have h1:=hm.2.1
    rw [if_neg (by omega),if_neg (by omega),Int.zero_mul,Int.zero_ediv]
  · rfl
theorem low_top {n k:Int} (h:mayP n k):lowS n k k=n:=by
  unfold lowS clI
  have h1:=h.2.1
  rw [if_pos h,if_neg (by omega),if_neg (by omega),Int.mul_comm,Int.mul_ediv_cancel _ (by omega)]
theorem low_neg {n k i:Int} (h:i≤0):lowS n k i=0:=by
  by_cases e:i=0
  · subst e; exact low_zero n k
  · unfold lowS clI; split
    · rw [if_pos (by omega),Int.zero_mul,Int.zero_ediv]
    · rfl
theorem low_b {n k i:Int}:0≤lowS n k i∧(0≤n→lowS n k i≤n):=by
  by_cases hm:mayP n k
  · have hc:=clI_b (i:=i) hm.2.1
    refine ⟨?_,fun _=>?_⟩
    · unfold lowS; rw [if_pos hm]; exact Int.ediv_nonneg (Int.mul_nonneg hc.1 hm.1.1) (by have:=hm.2; omega)
    · by_cases hi:i≤k
      · have:=low_mono (n:=n) hi (k:=k); rwa [low_top hm] at this
      · have h1:=hm.2.1
        have e:lowS n k i=n:=by
          unfold lowS clI
          rw [if_pos hm,if_neg (by omega),if_pos (by omega),Int.mul_comm,Int.mul_ediv_cancel _ (by omega)]
        omega
  · unfold lowS; rw [if_neg hm]; exact ⟨by omega,fun h=>h⟩
def shT (a b:Int) (t:Triple):Triple:=⟨t.Row+a,t.Col+b,t.Val⟩
end Go.Proofs.YtpackolbhcmomaaGreat
