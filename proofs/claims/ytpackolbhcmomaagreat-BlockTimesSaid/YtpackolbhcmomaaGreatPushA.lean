import Derived.Test.YtpackolbhcmomaaGreatDcscB
namespace Go.Proofs.YtpackolbhcmomaaGreat
open Go Go.Fw
set_option linter.unusedVariables false
set_option linter.unusedSimpArgs false
theorem atS_old {n:Nat} {T:List Triple} {t:Triple} (h:∃ u∈T,u.Row=t.Row):atS n (T++[t])=atS n T:=by
  refine incr_ext (atS_incr _ _) (atS_incr _ _) fun x=>?_
  rw [atS_mem,atS_mem]
  obtain ⟨u,hu,e⟩:=h
  constructor
  · rintro ⟨h1,v,hv,rfl⟩
    rcases List.mem_append.1 hv with hv | hv
    · exact ⟨h1,v,hv,rfl⟩
    · simp at hv; subst hv; exact ⟨h1,u,hu,e⟩
  · rintro ⟨h1,v,hv,e'⟩; exact ⟨h1,v,by simp [hv],e'⟩
theorem atS_new {n:Nat} {T:List Triple} {t:Triple} (h0:0≤t.Row) (h1:t.Row<n) (h:∀ u∈T,u.Row<t.Row):atS n (T++[t])=atS n T++[t.Row]:=by
  refine incr_ext (atS_incr _ _) ?_ fun x=>?_
  · rw [List.pairwise_append]
    refine ⟨atS_incr _ _,by simp,fun a ha b hb=>?_⟩
    simp at hb; subst hb
    obtain ⟨_,u,hu,rfl⟩:=atS_mem.1 ha
    exact h u hu
  · rw [List.mem_append,atS_mem,atS_mem]
    constructor
    · rintro ⟨g,v,hv,rfl⟩
      rcases List.mem_append.1 hv with hv | hv
      · exact .inl ⟨g,v,hv,rfl⟩
      · simp at hv; subst hv; simp
    · rintro (⟨g,v,hv,e⟩ | hx)
      · exact ⟨g,v,by simp [hv],e⟩
      · simp at hx; subst hx; exact ⟨⟨h0,h1⟩,t,by simp,rfl⟩
theorem atS_nil (n:Nat):atS n []=[]:=by unfold atS; rw [List.filter_eq_nil_iff.2 (by simp [anyR])]; rfl
theorem stS_nil (n:Nat):stS n []=[0]:=by unfold stS; rw [atS_nil]; rfl
theorem below_full {T:List Triple} {x:Nat} (h:∀ u∈T,u.Row<(x:Int)):below T x=T.length:=by
  unfold below; rw [List.countP_eq_length.2]; intro t ht; simpa using h t ht
theorem stS_new {n:Nat} {T:List Triple} {t:Triple} (h0:0≤t.Row) (h1:t.Row<n) (h:∀ u∈T,u.Row<t.Row):stS n (T++[t])=stS n T++[(T.length:Int)+1]:=by
  unfold stS
  rw [atS_new h0 h1 h,List.map_append,List.cons_append]
  congr 2
  · refine List.map_congr_left fun x hx=>?_
    obtain ⟨_,u,hu,e⟩:=atS_mem.1 hx
    have:=h u hu
    rw [below_snoc,if_neg (by omega)]; omega
  · simp only [List.map_cons,List.map_nil]
    rw [below_full (fun u hu=>?_)]
    · simp
    · rcases List.mem_append.1 hu with hu | hu
      · have:=h u hu; omega
      · simp at hu; subst hu; omega
theorem last_is {l:List Int} (hl:l.Pairwise (· < ·)) {x:Int} (hx:x∈l) (hm:∀ y∈l,y≤x):at0 l ((l.length:Int) - 1)=x:=by
  obtain ⟨q,hq,e⟩:=mem_at0 hx
  by_cases h:q=l.length - 1
  · subst h; rw [←e]; congr 1; omega
  · have h1:=incr_at hl (show q<l.length - 1 by omega) (by omega)
    have h2:=hm _ (at0_mem (xs:=l) (i:=((l.length - 1:Nat):Int)) (by omega) (by omega))
    omega
theorem stS_old {n:Nat} {T:List Triple} {t:Triple} (h0:0≤t.Row) (h1:t.Row<n) (h:∃ u∈T,u.Row=t.Row) (hm:∀ u∈T,u.Row≤t.Row):stS n (T++[t])=(stS n T).set (atS n T).length ((T.length:Int)+1):=by
  obtain ⟨u,hu,eu⟩:=h
  have hmem:t.Row∈atS n T:=atS_mem.2 ⟨⟨h0,h1⟩,u,hu,eu⟩
  have hmax:∀ y∈atS n T,y≤t.Row:=fun y hy=>by obtain ⟨_,v,hv,rfl⟩:=atS_mem.1 hy; exact hm v hv
  have hlast:=last_is (atS_incr n T) hmem hmax
  have hpos:0<(atS n T).length:=List.length_pos_of_mem hmem
  unfold stS
  rw [atS_old ⟨u,hu,eu⟩]
  obtain ⟨m,hm'⟩:∃ m,(atS n T).length=m+1:=⟨(atS n T).length - 1,by omega⟩
  rw [hm',List.set_cons_succ]
  congr 1
  apply List.ext_getElem?
  intro i
  by_cases hi:i<m+1
  · have hil:i<(atS n T).length:=by omega
    have ei:(atS n T)[i]=at0 (atS n T) i:=by unfold at0; simp [List.getD_eq_getElem?_getD,hil]
    by_cases e:m=i
    · subst e
      rw [List.getElem?_set_self (by simp; omega)]
      simp only [List.getElem?_map,List.getElem?_eq_getElem hil,Option.map_some,ei]
      rw [hm',show ((m+1:Nat):Int) - 1=(m:Int) by omega] at hlast
      rw [hlast,below_full (fun v hv=>?_)]
      · simp
      · rcases List.mem_append.1 hv with hv | hv
        · have:=hm v hv; omega
        · simp at hv; subst hv; omega
    · rw [List.getElem?_set_ne e]
      simp only [List.getElem?_map,List.getElem?_eq_getElem hil,Option.map_some,ei]
      have h2:=incr_at (atS_incr n T) (show i<m by omega) (by omega)
      rw [hm',show ((m+1:Nat):Int) - 1=(m:Int) by omega] at hlast
      rw [hlast] at h2
      have h3:=(at_in hil).1
      rw [below_snoc,if_neg (by omega)]; simp
  · rw [List.getElem?_eq_none (by simp; omega),List.getElem?_eq_none (by simp; omega)]
theorem srt_le {T:List Triple} (h:Srt T) {i:Nat} (hi:i<T.length):∀ u∈T.take i,u.Row≤T[i].Row:=by
  intro u hu
  obtain ⟨j,hj,rfl⟩:=List.getElem_of_mem hu
  simp only [List.length_take] at hj
  rw [List.getElem_take]
  have:=List.pairwise_iff_getElem.1 h j i (by omega) hi (by omega)
  unfold ltK key at this
  simp only at this; omega
theorem take_snoc {T:List Triple} {i:Nat} (hi:i<T.length):T.take (i+1)=T.take i++[T[i]]:=List.take_succ_eq_append_getElem hi
theorem dcsc_of_ok {a:Rows} {rows cols:Int} {ts:List Triple} {Q:Columns→Prop} (hl:small a) (hb:sureS a=builtS rows cols ts) (hR:RightP a→a=builtS rows cols ts) (hN:¬RightP a→rows=0∧cols=0∧ts=[]) (h:Canon rows cols ts) (hQ:Q (colS rows cols (turnT cols ts))):dcsc_Of a Q:=by
  unfold dcsc_Of dcsc_none
  refine right_ok hl (ifP_not (fun hr=>?_) (fun hr=>?_))
  · obtain ⟨rfl,rfl,rfl⟩:=hN (by simpa using hr)
    rw [show turnT 0 ([]:List Triple)=[] from rfl,colS_nil] at hQ
    exact hQ
  have hr:RightP a:=by simpa using hr
  have hT:=turn_canon h
  refine csr_turn_ok hl hb h (csr_triples_ok hT.sml (sure_built hT) hT ?_)
  generalize turnT cols ts=T at hT hQ
  have hlen:=hT.len; have hc0:=hT.r0; have hc1:=hT.r1
  have hat:=fun i=>atS_len cols.toNat (T.take i)
  refine range_intro (fun (s:List Int×List Int×List Int×List Int) (i:Int)=>(s.1,s.2.1,s.2.2.1,s.2.2.2,i)) 0 T.length (by omega) (fun i s=>s=(atS cols.toNat (T.take i),stS cols.toNat (T.take i),(T.take i).map (·.Col),(T.take i).map (·.Val))) (by omega) (s0:=([],[0],[],[])) (by simp [atS_nil,stS_nil]) (fun i s next _ hi hm hn=>?_) (fun s next hm=>?_)
  · subst hm
    dsimp only
    have hin:=hT.inn _ (List.getElem_mem hi)
    unfold inT at hin
    have hle:=srt_le hT.srt hi
    refine ifP_dec (fun _=>?_) (fun h=>by omega)
    refine idxP_nat hi ?_
    have hlt:(T.take i).length=i:=by simp; omega
    have hln:=hat i
    have fin:∀ (at' st':List Int),at'=atS cols.toNat (T.take (i+1))→st'.set at'.length ((i:Int)+1)=stS cols.toNat (T.take (i+1))→at'.length<st'.length →
        appP 8 ((T.take i).map (·.Col)) [T[i].Col] fun _=>appP 8 ((T.take i).map (·.Val)) [T[i].Val] fun _=>idxP st' (at'.length:Int) fun _=>next (at',st'.set (at'.length:Int).toNat (((T.take i).map (·.Col)++[T[i].Col]).length:Int),(T.take i).map (·.Col)++[T[i].Col],(T.take i).map (·.Val)++[T[i].Val],w64 ((i:Int)+1)):=fun at' st' e1 e2 e3=>by
      refine appP_intro (by simp; omega) (appP_intro (by simp; omega) (idxP_nat e3 (hn (at',st'.set _ _,_,_) ?_)))
      have e4:(((T.take i).map (·.Col)++[T[i].Col]).length:Int)=(i:Int)+1:=by simp; omega
      rw [e4,Int.toNat_natCast,e2,e1,take_snoc hi,List.map_append,List.map_append]; rfl
    refine join_intro (fun s:List Int×List Int=>s.1=atS cols.toNat (T.take (i+1))∧s.2.set s.1.length ((i:Int)+1)=stS cols.toNat (T.take (i+1))∧s.1.length<s.2.length) (fun s hs=>fin s.1 s.2 hs.1 hs.2.1 hs.2.2) (fun k hk=>?_)
    by_cases hnew:∃ u∈T.take i,u.Row=T[i].Row
    · have e1:=atS_old (n:=cols.toNat) hnew
      have e2:=stS_old (n:=cols.toNat) (by omega) (by omega) hnew hle
      rw [←take_snoc hi] at e1 e2
      rw [hlt] at e2
      obtain ⟨u,hu,eu⟩:=hnew
      have hmem:T[i].Row∈atS cols.toNat (T.take i):=atS_mem.2 ⟨⟨by omega,by omega⟩,u,hu,eu⟩
      have hpos:=List.length_pos_of_mem hmem
      have hlast:=last_is (atS_incr _ _) hmem (fun y hy=>by obtain ⟨_,v,hv,rfl⟩:=atS_mem.1 hy; exact hle v hv)
      refine join_intro (fun b=>b=false) (fun b hb=>by subst hb; exact ifP_neg rfl (hk _ ⟨e1.symm,e2.symm,by rw [st_len]; exact Nat.lt_succ_self _⟩)) (fun k2 hk2=>?_)
      refine ifP_eq (fun h=>by omega) (fun _=>?_)
      rw [w64_id (by omega) (by omega)]
      refine idxP_at0 (by omega) (by omega) (hk2 _ ?_)
      rw [hlast]; simp
    · have hlts:∀ u∈T.take i,u.Row<T[i].Row:=fun u hu=>by
        have h1:=hle u hu
        have h2:u.Row≠T[i].Row:=fun e=>hnew ⟨u,hu,e⟩
        omega
      have e1:=atS_new (n:=cols.toNat) (by omega) (by omega) hlts
      have e2:=stS_new (n:=cols.toNat) (by omega) (by omega) hlts
      rw [←take_snoc hi] at e1 e2
      rw [hlt] at e2
      refine join_intro (fun b=>b=true) (fun b hb=>?_) (fun k2 hk2=>?_)
      · subst hb
        refine ifP_pos rfl (appP_intro (by simp; omega) (appP_intro (by simp [st_len]; omega) (hk _ ⟨e1.symm,?_,?_⟩)))
        · rw [e2,List.length_append,List.length_singleton,←st_len,List.set_append_right _ _ (Nat.le_refl _)]; simp
        · simp [st_len]
      · refine ifP_eq (fun _=>hk2 _ rfl) (fun h0=>?_)
        rw [w64_id (by omega) (by omega)]
        refine idxP_at0 (by omega) (by omega) (hk2 _ ?_)
        have hne:at0 (atS cols.toNat (T.take i)) (((atS cols.toNat (T.take i)).length:Int) - 1)≠T[i].Row:=fun e=>by
          obtain ⟨_,u,hu,e'⟩:=atS_mem.1 (at0_mem (xs:=atS cols.toNat (T.take i)) (i:=((atS cols.toNat (T.take i)).length:Int) - 1) (by omega) (by omega))
          exact hnew ⟨u,hu,e'.trans e⟩
        simpa using hne
  · subst hm
    dsimp only
    refine ifP_dec (fun h=>by omega) (fun _=>?_)
    rw [List.take_length,hR hr]
    exact hQ
theorem place_ok {c:Columns} {k:Int} {Q:Int→Prop} (hs:c.At.Pairwise (· < ·)) (hl:c.At.length≤1000000000) (h1:∀ j:Nat,j<c.At.length→at0 c.At j=k→Q j) (h2:(∀ j:Nat,j<c.At.length→at0 c.At j≠k)→Q (-1)):dcsc_place c k Q:=by
  unfold dcsc_place
  refine join_intro (fun s:Int×Int=>(s.1<s.2∧∃ j:Nat,s.1=j∧j<c.At.length∧at0 c.At j=k)∨(¬s.1<s.2∧∀ j:Nat,j<c.At.length→at0 c.At j≠k)) (fun s hs=>?_) (fun kk hkk=>?_)
  · obtain ⟨s1,s2⟩:=s
    dsimp only
    rcases hs with ⟨hlt,j,rfl,hj,e⟩ | ⟨hge,hno⟩
    · exact ifP_dec (fun _=>h1 j hj e) (fun h=>absurd hlt h)
    · exact ifP_dec (fun h=>absurd h hge) (fun _=>h2 hno)
  refine loop_intro (fun s:Int×Int=>∃ lo hi:Nat,s=((lo:Int),(hi:Int))∧lo≤hi∧hi≤c.At.length∧(∀ j:Nat,j<lo→at0 c.At j<k)∧∀ j:Nat,hi≤j→j<c.At.length→k<at0 c.At j) (fun s=>(s.2 - s.1).toNat) ⟨0,c.At.length,rfl,by omega,by omega,by omega,by omega⟩ ?_
  rintro _ next ⟨lo,hi,rfl,hlh,hhl,hL,hH⟩ hn
  dsimp only
  refine ifP_dec (fun h=>?_) (fun h=>hkk _ (.inr ⟨h,fun j hj e=>?_⟩))
  · obtain ⟨m,hm⟩:∃ m:Nat,m=lo+(hi - lo) / 2:=⟨_,rfl⟩
    have em:w64 ((lo:Int)+(w64 ((w64 ((hi:Int) - lo)).tdiv 2)))=(m:Int):=by
      rw [w64_id (x:=(hi:Int) - lo) (by omega) (by omega),Int.tdiv_eq_ediv_of_nonneg (by omega),w64_id (x:=((hi:Int) - lo) / 2) (by omega) (by omega),w64_id (by omega) (by omega)]
      omega
    rw [em]
    have e2:w64 ((m:Int)+1)=((m+1:Nat):Int):=by rw [w64_id (by omega) (by omega)]; omega
    rw [e2]
    refine idxP_at0 (by omega) (by omega) (ifP_eq (fun e=>hkk _ (.inl ⟨by dsimp only; omega,m,rfl,by omega,e⟩)) (fun e=>?_))
    refine idxP_at0 (by omega) (by omega) (ifP_dec (fun hlt=>hn _ ⟨m+1,hi,rfl,by omega,hhl,fun j hj=>?_,hH⟩ (by simp only; omega)) (fun hge=>hn _ ⟨lo,m,rfl,by omega,by omega,hL,fun j hj hjl=>?_⟩ (by simp only; omega)))
    · by_cases e':j=m
      · subst e'; exact hlt
      · have:=incr_at hs (show j<m by omega) (by omega); omega
    · by_cases e':j=m
      · subst e'; omega
      · have:=incr_at hs (show m<j by omega) hjl; omega
  · rcases Nat.lt_or_ge j lo with hc | hc
    · have:=hL j hc; omega
    · have:=hH j (by omega) hj; omega
def colI (T:List Triple) (k:Int):List Item:=(T.filter fun t=>decide (t.Row=k)).map itS
theorem colI_nat (T:List Triple) (k:Nat):colI T k=(segS T k).map itS:=rfl
theorem colI_none {T:List Triple} {n:Nat} {k:Int} (h:∀ t∈T,0≤t.Row∧t.Row<n) (hk:∀ j:Nat,j<(atS n T).length→at0 (atS n T) j≠k):colI T k=[]:=by
  unfold colI
  rw [List.filter_eq_nil_iff.2]; · rfl
  intro t ht
  simp only [decide_eq_true_eq]
  intro e
  have:=h t ht
  obtain ⟨j,hj,e'⟩:=mem_at0 (l:=atS n T) (x:=k) (atS_mem.2 ⟨⟨by omega,by omega⟩,t,ht,e⟩)
  exact hk j hj e'
theorem Canon.rowIn {rows cols:Int} {T:List Triple} (h:Canon cols rows T):∀ t∈T,0≤t.Row∧t.Row<(cols.toNat:Int):=fun t ht=>by
  have:=h.inn t ht; unfold inT at this; omega
theorem collect_ok {rows cols:Int} {T:List Triple} (h:Canon cols rows T) {j:Nat} (hj:j<(atS cols.toNat T).length) {Q:List Item→Prop} (hQ:Q (colI T (at0 (atS cols.toNat T) j))):slices_Collect_api_Item_d7d (colS rows cols T) j Q:=by
  unfold slices_Collect_api_Item_d7d slices_AppendSeq_api_Item_api_Item_828 dcsc_items_1_1ae
  obtain ⟨x,lo,hi,h1,h2,h3,h4,h5,s⟩:=h.colseg hj
  have hs:=st_len cols.toNat T
  have hlen:=h.len; have hsl:=s.len; have hc:=h.r1; have hal:=atS_len cols.toNat T
  have e1:w64 ((j:Int)+1)=(j:Int)+1:=w64_id (by omega) (by omega)
  have hst:(colS rows cols T).Start=stS cols.toNat T:=rfl
  rw [h1,colI_nat,←s.eq] at hQ
  rw [hst,e1]
  refine idxP_at0 (by omega) (by omega) ?_
  rw [h3]
  refine range_intro (fun (st:List Item) (i:Int)=>(st,i,0)) lo hi (by omega) (fun p st=>st=((T.take p).drop lo).map itS) (by omega) (s0:=[]) (by simp) (fun p st next hp1 hp2 hm hn=>?_) (fun st next hm=>?_)
  · subst hm
    dsimp only
    refine idxP_at0 (by omega) (by omega) ?_
    rw [h4]
    have hpl:p<T.length:=by omega
    refine ifP_dec (fun _=>?_) (fun h=>by omega)
    refine idxP_intro (by omega) (x:=T[p].Col) (by simp [colS,hpl]) (idxP_intro (by omega) (x:=T[p].Val) (by simp [colS,hpl]) ⟨rfl,appP_intro (by simp; omega) (ifP_neg rfl (hn _ ?_))⟩)
    rw [ext_step hp1 hpl,List.map_append]; rfl
  · subst hm
    dsimp only
    refine idxP_at0 (by omega) (by omega) ?_
    rw [h4]
    exact ifP_dec (fun h=>by omega) (fun _=>⟨rfl,hQ⟩)
theorem dcsc_column_ok {c:Columns} {rows cols k:Int} {T:List Triple} {Q:List Item→Prop} (hl:smallC c) (hc:sureC c=colS rows cols T) (h:Canon cols rows T) (hQ:Q (colI T k)):dcsc_Column c k Q:=by
  unfold dcsc_Column
  refine dcsc_sure_ok hl ?_
  rw [hc]
  have hal:=atS_len cols.toNat T; have hr:=h.r1
  refine place_ok (atS_incr _ _) (show (atS cols.toNat T).length≤1000000000 by omega) (fun j (hj:j<(atS cols.toNat T).length) (e:at0 (atS cols.toNat T) j=k)=>?_) (fun (hno:∀ j:Nat,j<(atS cols.toNat T).length→at0 (atS cols.toNat T) j≠k)=>?_)
  · refine ifP_dec (fun h=>by omega) (fun _=>?_)
    unfold dcsc_items_9d2
    exact collect_ok h hj (by rw [e]; exact hQ)
  · refine ifP_pos rfl ?_
    rwa [colI_none h.rowIn hno] at hQ
theorem colI_len (T:List Triple) (k:Int):(colI T k).length≤T.length:=by unfold colI; rw [List.length_map]; exact List.length_filter_le _ _
theorem turnT_vals {cols:Int} {T:List Triple} {rows:Int} (h:Canon rows cols T) (hv:∀ t∈T,inI t.Val):∀ t∈turnT cols T,inI t.Val:=fun t ht=>hv (flip t) ((turn_mem h t).1 ht)
theorem atS_succ (n:Nat) (T:List Triple):atS (n+1) T=if segS T n=[] then atS n T else atS n T++[(n:Int)]:=by
  have e:anyR T n = !(segS T n).isEmpty:=by
    unfold anyR segS
    rw [Bool.eq_iff_iff]
    simp only [List.any_eq_true,decide_eq_true_eq,Bool.not_eq_true',List.isEmpty_eq_false_iff,ne_eq,List.filter_eq_nil_iff,Classical.not_forall]
    simp
  unfold atS
  rw [List.range_succ,List.filter_append,List.map_append]
  by_cases h:segS T n=[]
  · rw [if_pos h]
    have:anyR T n=false:=by rw [e,h]; rfl
    simp [this]
  · rw [if_neg h]
    have:anyR T n=true:=by rw [e]; cases hs:segS T n with
      | nil=>exact absurd hs h
      | cons=>rfl
    simp [this]
theorem stS_succ (n:Nat) (T:List Triple):stS (n+1) T=if segS T n=[] then stS n T else stS n T++[below T (n+1)]:=by
  unfold stS
  rw [atS_succ]
  by_cases h:segS T n=[]
  · rw [if_pos h,if_pos h]
  · rw [if_neg h,if_neg h]; simp
theorem Seg.lens {T:List Triple} {x lo hi:Nat} (s:Seg T x lo hi):(segS T x).length=hi - lo:=by
  rw [←s.eq]; have:=s.len; simp; omega
theorem ref_dcsc_of_ok {a:Rows} {rows cols:Int} {ts:List Triple} {Q:Columns→Prop} (hl:small a) (ha:sureS a=builtS rows cols ts) (h:Canon rows cols ts) (hQ:Q (colS rows cols (turnT cols ts))):ref08_Of a Q:=by
  unfold ref08_Of
  refine ref_turn_ok hl ha h ?_
  have hT:=turn_canon h
  generalize turnT cols ts=T at hT hQ
  have hlen:=hT.len; have hc0:=hT.r0; have hc1:=hT.r1
  obtain ⟨n,rfl⟩:∃ n:Nat,cols=n:=⟨cols.toNat,by omega⟩
  refine range_intro (fun (s:List Int×List Int×List Int×List Int) (i:Int)=>(s.1,s.2.1,s.2.2.1,s.2.2.2,i)) 0 n (by omega) (fun k s=>s=(atS k T,stS k T,(T.take (below T k).toNat).map (·.Col),(T.take (below T k).toNat).map (·.Val))) (by omega) (s0:=([],[0],[],[])) (by rw [below_zero fun t ht=>(hT.inn t ht).1]; rfl) (fun k s next _ hk hm hn=>?_) (fun s next hm=>?_)
  · subst hm
    dsimp only
    refine ifP_dec (fun _=>?_) (fun (h:¬(k:Int)<n)=>by omega)
    refine ref_row_ok hT.sml (sure_built hT) hT ?_
    unfold rowS
    rw [if_pos (by omega),Int.toNat_natCast]
    obtain ⟨lo,hi,s⟩:=hT.seg k
    have hsl:=s.lens; have hsn:=s.len; have hle:=s.le
    have hal:=atS_len k T; have hst:=st_len k T
    refine ifP_eq (fun h0=>hn (_,_,_,_) ?_) (fun h0=>?_)
    · have hnil:segS T k=[]:=List.length_eq_zero_iff.1 (by simpa using h0)
      have:lo=hi:=by rw [hnil] at hsl; simp at hsl; omega
      rw [atS_succ,stS_succ,if_pos hnil,if_pos hnil,s.hi,s.lo,this]; rfl
    · have hne:segS T k≠[]:=fun e=>h0 (by rw [e]; rfl)
      refine appP_intro (by simp; omega) ?_
      rw [s.lo,Int.toNat_natCast]
      have hxs:segS T k=(T.take hi).drop lo:=s.eq.symm
      have htk:T.take hi=T.take lo++segS T k:=by
        rw [hxs]
        have:T.take lo=(T.take hi).take lo:=by rw [List.take_take,Nat.min_eq_left hle]
        rw [this,List.take_append_drop]
      generalize hX:segS T k=X at hsl htk hne
      refine range_intro (fun (s:List Int×List Int) (i:Int)=>(s.1,s.2,i)) 0 X.length (by omega) (fun i s=>s=((T.take lo).map (·.Col)++(X.take i).map (·.Col),(T.take lo).map (·.Val)++(X.take i).map (·.Val))) (by omega) (s0:=((T.take lo).map (·.Col),(T.take lo).map (·.Val))) (by simp) (fun i s nx _ hi2 hm hnx=>?_) (fun s nx hm=>?_)
      · subst hm
        dsimp only
        refine ifP_dec (fun _=>?_) (fun h=>by simp at h; omega)
        refine idxP_intro (by omega) (x:=itS X[i]) (by simp [hi2]) (appP_intro (by simp; omega) (idxP_intro (by omega) (x:=itS X[i]) (by simp [hi2]) (appP_intro (by simp; omega) (hnx (_,_) ?_))))
        rw [take_snoc hi2,List.map_append,List.map_append,←List.append_assoc,←List.append_assoc]; rfl
      · subst hm
        dsimp only
        refine ifP_dec (fun h=>by simp at h) (fun _=>?_)
        rw [List.take_length,←List.map_append,←List.map_append,←htk]
        refine appP_intro (by simp [st_len]; omega) (hn (_,_,_,_) ?_)
        rw [atS_succ,stS_succ,hX,if_neg hne,if_neg hne,s.hi,Int.toNat_natCast]
        have:(((T.take hi).map (·.Col)).length:Int)=(hi:Int):=by simp; omega
        rw [this]
  · subst hm
    dsimp only
    refine ifP_dec (fun (h:(n:Int)<n)=>by omega) (fun _=>?_)
    have hb:below T n=T.length:=by have:=below_all hT; rwa [Int.toNat_natCast] at this
    rw [hb,Int.toNat_natCast,List.take_length]
    exact hQ
def hkey (h:Push_head):Key:=((h.l.head?.map (·.At)).getD 0,h.which)
def gH (H:List Push_head) (i:Nat):Push_head:=H.getD i default
theorem gH_get {H:List Push_head} {i:Nat} (h:i<H.length):H[i]? = some (gH H i):=by simp [gH,List.getD_eq_getElem?_getD,h]
theorem gH_mem {H:List Push_head} {i:Nat} (h:i<H.length):gH H i∈H:=List.mem_of_getElem? (gH_get h)
def hKey (H:List Push_head) (i:Nat):Key:=hkey (gH H i)
def full (H:List Push_head):Prop:=∀ h∈H,h.l≠[]
theorem full_perm {H H':List Push_head} (h:full H) (hp:H'.Perm H):full H':=fun x hx=>h x (hp.mem_iff.1 hx)
theorem hless_ok {H:List Push_head} {i k:Nat} {Q:Bool→Prop} (hf:full H) (hi:i<H.length) (hk:k<H.length) (hQ:Q (decide (ltK (hKey H i) (hKey H k)))):push_heads_Less_706 H i k Q:=by
  unfold push_heads_Less_706
  obtain ⟨s,t,e1⟩:∃ s t,(gH H i).l=s :: t:=List.exists_cons_of_ne_nil (hf _ (gH_mem hi))
  obtain ⟨s',t',e2⟩:∃ s t,(gH H k).l=s :: t:=List.exists_cons_of_ne_nil (hf _ (gH_mem hk))
  have k1:hKey H i=(s.At,(gH H i).which):=by simp [hKey,hkey,e1]
  have k2:hKey H k=(s'.At,(gH H k).which):=by simp [hKey,hkey,e2]
  refine idxP_intro (x:=gH H i) (by omega) (gH_get hi) (idxP_intro (by omega) (x:=s) (by rw [e1]; rfl) (idxP_intro (x:=gH H k) (by omega) (gH_get hk) (idxP_intro (by omega) (x:=s') (by rw [e2]; rfl) (idxP_intro (x:=gH H i) (by omega) (gH_get hi) (idxP_intro (x:=gH H k) (by omega) (gH_get hk) ?_)))))
  refine cmp_int_ok (cmp_int_ok (or_ok ?_))
  rw [k1,k2] at hQ
  have:(or2 (cmpc s.At s'.At) (cmpc (gH H i).which (gH H k).which)<0)↔ltK (s.At,(gH H i).which) (s'.At,(gH H k).which):=by
    unfold or2 cmpc ltK; simp only; split <;> split <;> (try split) <;> (try split) <;> omega
  simpa only [this] using hQ
def swp (H:List Push_head) (i k:Nat):List Push_head:=(H.set i (gH H k)).set k (gH H i)
theorem swp_len (H:List Push_head) (i k:Nat):(swp H i k).length=H.length:=by simp [swp]
theorem swp_get {H:List Push_head} {i k:Nat} (hi:i<H.length) (hk:k<H.length) (j:Nat):gH (swp H i k) j=if j=k then gH H i else if j=i then gH H k else gH H j:=by
  unfold swp gH
  simp only [List.getD_eq_getElem?_getD]
  by_cases e1:j=k
  · subst e1; rw [if_pos rfl,List.getElem?_set_self (by simpa using hk)]; simp
  · rw [if_neg e1,List.getElem?_set_ne (Ne.symm e1)]
    by_cases e2:j=i
    · subst e2; rw [if_pos rfl,List.getElem?_set_self hi]; simp
    · rw [if_neg e2,List.getElem?_set_ne (Ne.symm e2)]
theorem swp_key {H:List Push_head} {i k:Nat} (hi:i<H.length) (hk:k<H.length) (j:Nat):hKey (swp H i k) j=if j=k then hKey H i else if j=i then hKey H k else hKey H j:=by
  unfold hKey; rw [swp_get hi hk]; split
  · rfl
  · split <;> rfl
theorem set_perm {α:Type}:∀ (l:List α) (i:Nat) (h:i<l.length) (y:α),(l[i] :: l.set i y).Perm (y :: l)
  | a :: l,0,_,y=>by simpa using List.Perm.swap y a l
  | a :: l,i+1,h,y=>by
    have:=set_perm l i (by simpa using h) y
    simp only [List.getElem_cons_succ,List.set_cons_succ]
    exact (List.Perm.swap _ _ _).trans ((this.cons a).trans (List.Perm.swap _ _ _))
theorem swp_perm {H:List Push_head} {i k:Nat} (hi:i<H.length) (hk:k<H.length):(swp H i k).Perm H:=by
  have e1:H[i]=gH H i:=by have:=gH_get hi; rw [List.getElem?_eq_getElem hi] at this; exact Option.some.inj this
  have e2:H[k]=gH H k:=by have:=gH_get hk; rw [List.getElem?_eq_getElem hk] at this; exact Option.some.inj this
  have h1:=set_perm H i hi (gH H k)
  have h2:=set_perm (H.set i (gH H k)) k (by simpa using hk) (gH H i)
  have e3:(H.set i (gH H k))[k]'(by simpa using hk)=gH H k:=by
    rw [List.getElem_set]; split
    · rfl
    · exact e2
  rw [e3] at h2; rw [e1] at h1
  exact List.Perm.cons_inv (h2.trans h1)
theorem swap_ok {H:List Push_head} {i k:Nat} {Q:List Push_head→Prop} (hi:i<H.length) (hk:k<H.length) (hQ:Q (swp H i k)):push_heads_Swap_c73 H i k Q:=by
  unfold push_heads_Swap_c73
  refine idxP_intro (x:=gH H k) (by omega) (gH_get hk) (idxP_intro (x:=gH H i) (by omega) (gH_get hi) (idxP_intro (x:=gH H i) (by omega) (gH_get hi) ?_))
  refine idxP_intro (x:=(H.set i (gH H k))[k]'(by simpa using hk)) (by omega) (by simp only [Int.toNat_natCast]; exact List.getElem?_eq_getElem (by simpa using hk)) ?_
  simp only [Int.toNat_natCast]
  exact hQ
def Heap (H:List Push_head) (n:Nat):Prop:=∀ j,0<j→j<n→¬ltK (hKey H j) (hKey H ((j - 1) / 2))
theorem heap_root {H:List Push_head} {n:Nat} (h:Heap H n):∀ j,j<n→¬ltK (hKey H j) (hKey H 0):=by
  intro j
  induction j using Nat.strongRecOn with
  | _ j ih=>
    intro hj
    rcases Nat.eq_zero_or_pos j with e | hp
    · subst e; exact ltK_irrefl _
    · have h1:=h j hp hj
      have h2:=ih ((j - 1) / 2) (by omega) (by omega)
      unfold ltK at *; omega
theorem up_ok {o:Push_merger} {j:Nat} {Q:Push_merger→Prop} (hl:o.heads.length≤1000000000000) (hf:full o.heads) (hj:j<o.heads.length)
    (h1:∀ c,0<c→c<o.heads.length→c≠j→¬ltK (hKey o.heads c) (hKey o.heads ((c - 1) / 2))) (h2:∀ c,0<c→c<o.heads.length→(c - 1) / 2=j→0<j→¬ltK (hKey o.heads c) (hKey o.heads ((j - 1) / 2)))
    (hQ:∀ H,H.Perm o.heads→Heap H H.length→Q ⟨H,o.r,o.out⟩):container_heap_up_248 o j Q:=by
  unfold container_heap_up_248
  refine loop_intro (fun s:List Push_head×Int=>∃ j:Nat,s.2=j∧s.1.Perm o.heads∧j<s.1.length∧(∀ c,0<c→c<s.1.length→c≠j→¬ltK (hKey s.1 c) (hKey s.1 ((c - 1) / 2)))∧(∀ c,0<c→c<s.1.length→(c - 1) / 2=j→0<j→¬ltK (hKey s.1 c) (hKey s.1 ((j - 1) / 2)))) (fun s=>s.2.toNat)
    ⟨j,rfl,.refl _,hj,h1,h2⟩ ?_
  rintro ⟨H,jj⟩ next ⟨j,e,hp,hj,g1,g2⟩ hn
  simp only at e hp hj g1 g2 ⊢
  subst e
  have hlen:=hp.length_eq
  have ei:w64 ((w64 ((j:Int) - 1)).tdiv 2)=((if j=0 then 0 else (j - 1) / 2:Nat):Int):=by
    rw [w64_id (x:=(j:Int) - 1) (by omega) (by omega)]
    split
    · rename_i e; subst e; decide
    · rw [Int.tdiv_eq_ediv_of_nonneg (by omega),w64_id (by omega) (by omega)]; omega
  rw [ei]
  refine ifP_eq (fun e=>?_) (fun e=>?_)
  · refine hQ H hp fun c hc hcl=>g1 c hc hcl ?_
    split at e <;> omega
  · have hj0:0<j:=by
      rcases Nat.eq_zero_or_pos j with z | z
      · subst z; simp at e
      · exact z
    simp only [show j≠0 by omega,if_false]
    have hf':=full_perm hf hp
    refine hless_ok hf' hj (by omega) (ifP_not (fun hlt=>?_) (fun hlt=>?_))
    · refine hQ H hp fun c hc hcl=>?_
      by_cases ec:c=j
      · subst ec; exact of_decide_eq_false hlt
      · exact g1 c hc hcl ec
    · have hlt:=of_decide_eq_true hlt
      refine swap_ok (by omega) hj (hn _ ⟨(j - 1) / 2,rfl,(swp_perm (by omega) hj).trans hp,by rw [swp_len]; omega,?_,?_⟩ (by simp only [Int.toNat_natCast]; omega))
      · intro c hc hcl hne
        rw [swp_len] at hcl
        rw [swp_key (by omega) hj,swp_key (by omega) hj]
        by_cases e1:c=j
        · subst e1
          rw [if_pos rfl,if_neg (by omega),if_pos rfl]
          unfold ltK at *; omega
        · rw [if_neg e1,if_neg hne]
          by_cases e2:(c - 1) / 2=j
          · rw [if_pos e2]
            exact g2 c hc hcl e2 hj0
          · rw [if_neg e2]
            by_cases e3:(c - 1) / 2=(j - 1) / 2
            · rw [if_pos e3]
              have:=g1 c hc hcl e1
              rw [e3] at this
              unfold ltK at *; omega
            · rw [if_neg e3]; exact g1 c hc hcl e1
      · intro c hc hcl he hi0
        rw [swp_len] at hcl
        rw [swp_key (by omega) hj,swp_key (by omega) hj]
        have hpar:=g1 ((j - 1) / 2) hi0 (by omega) (by omega)
        rw [if_neg (show ((j - 1) / 2 - 1) / 2≠j by omega),if_neg (show ((j - 1) / 2 - 1) / 2≠(j - 1) / 2 by omega)]
        by_cases e1:c=j
        · subst e1; rw [if_pos rfl]; exact hpar
        · rw [if_neg e1,if_neg (by omega)]
          have:=g1 c hc hcl e1
          rw [he] at this
          unfold ltK at *; omega
theorem put_ok {o:Push_merger} {l:List Sum} {w:Int} {Q:Push_merger→Prop} (hl:o.heads.length≤1000000000) (hf:full o.heads) (hh:Heap o.heads o.heads.length)
    (hQ:∀ H,H.Perm (if l=[] then o.heads else ⟨l,w⟩ :: o.heads)→Heap H H.length→Q ⟨H,o.r,o.out⟩):push_merger_put_46e o l w Q:=by
  unfold push_merger_put_46e container_heap_Push_f07 push_heads_Push_5fa push_heads_Len_66a
  refine ifP_dec (fun h=>?_) (fun h=>?_)
  · have hne:l≠[]:=by intro e; subst e; simp at h
    rw [if_neg hne] at hQ
    refine appP_intro (by simp; omega) ?_
    show container_heap_up_248 ⟨o.heads++[⟨l,w⟩],o.r,o.out⟩ (w64 (((o.heads++[(⟨l,w⟩:Push_head)]).length:Int) - 1)) _
    have hlen:(o.heads++[(⟨l,w⟩:Push_head)]).length=o.heads.length+1:=by simp
    have el:w64 (((o.heads++[(⟨l,w⟩:Push_head)]).length:Int) - 1)=(o.heads.length:Int):=by rw [hlen,w64_id (x:=((o.heads.length+1:Nat):Int) - 1) (by omega) (by omega)]; omega
    rw [el]
    have hk:∀ c,c<o.heads.length→hKey (o.heads++[(⟨l,w⟩:Push_head)]) c=hKey o.heads c:=by
      intro c hc; simp [hKey,gH,List.getD_eq_getElem?_getD,List.getElem?_append_left hc]
    refine up_ok (o:=⟨o.heads++[⟨l,w⟩],o.r,o.out⟩) (j:=o.heads.length) (by simp only [hlen]; omega) ?_ (by simp only [hlen]; omega) ?_ ?_ ?_
    · intro x hx
      rcases List.mem_append.1 hx with h' | h'
      · exact hf x h'
      · simp only [List.mem_singleton] at h'; subst h'; exact hne
    · intro c hc hcl hne'
      simp only [hlen] at hcl hne' ⊢
      rw [hk c (by omega),hk _ (by omega)]
      exact hh c hc (by omega)
    · intro c hc hcl he hp
      simp only [hlen] at hcl
      omega
    · intro H hp hH
      exact hQ H (hp.trans List.perm_append_comm) hH
  · have:l=[]:=by
      cases l with
      | nil=>rfl
      | cons a b=>simp at h
    subst this
    rw [if_pos rfl] at hQ
    exact hQ o.heads (.refl _) hh
theorem down_ok {o:Push_merger} {n:Nat} {Q:Bool×Push_merger→Prop} (hl:o.heads.length≤1000000000000) (hf:full o.heads) (hn:n≤o.heads.length)
    (h1:∀ c,0<c→c<n→(c - 1) / 2≠0→¬ltK (hKey o.heads c) (hKey o.heads ((c - 1) / 2)))
    (hQ:∀ b H,H.Perm o.heads→Heap H n→(∀ j,n≤j→gH H j=gH o.heads j)→Q (b,⟨H,o.r,o.out⟩)):container_heap_down_206 o 0 n Q:=by
  unfold container_heap_down_206
  refine loop_intro (fun s:List Push_head×Int=>∃ j:Nat,s.2=j∧s.1.Perm o.heads∧(∀ j,n≤j→gH s.1 j=gH o.heads j)∧(j<n∨j=0)∧(∀ c,0<c→c<n→(c - 1) / 2≠j→¬ltK (hKey s.1 c) (hKey s.1 ((c - 1) / 2)))∧(∀ c,0<c→c<n→(c - 1) / 2=j→0<j→¬ltK (hKey s.1 c) (hKey s.1 ((j - 1) / 2)))) (fun s=>n - s.2.toNat)
    ⟨0,rfl,.refl _,fun _ _=>rfl,.inr rfl,h1,fun c _ _ _ h=>absurd h (by omega)⟩ ?_
  rintro ⟨H,jj⟩ next ⟨i,e,hp,hr,hi,g1,g2⟩ hn'
  simp only at e hp hi hr g1 g2 ⊢
  subst e
  have hlen:=hp.length_eq
  have e1:w64 (w64 (2*(i:Int))+1)=((2*i+1:Nat):Int):=by rw [w64_id (x:=2*(i:Int)) (by omega) (by omega),w64_id (by omega) (by omega)]; omega
  have e2:w64 (((2*i+1:Nat):Int)+1)=((2*i+2:Nat):Int):=by rw [w64_id (by omega) (by omega)]; omega
  simp only [e1,e2]
  refine ifP_dec (fun h=>?_) (fun h=>ifP_dec (fun h'=>by omega) (fun _=>?_))
  · exact hQ _ H hp (fun c hc hcl=>g1 c hc hcl (by omega)) hr
  · have hf':=full_perm hf hp
    refine join_intro (fun t:Int=>∃ j:Nat,t=j∧j<n∧(j - 1) / 2=i∧0<j∧∀ c,0<c→c<n→(c - 1) / 2=i→¬ltK (hKey H c) (hKey H j)) ?_ ?_
    · rintro t ⟨j,rfl,hjn,hji,hj0,hmin⟩
      refine hless_ok hf' (by omega) (by omega) (ifP_not (fun hlt=>?_) (fun hlt=>?_))
      · refine hQ _ H hp (fun c hc hcl=>?_) hr
        by_cases ec:(c - 1) / 2=i
        · have q1:=hmin c hc hcl ec
          have q2:=of_decide_eq_false hlt
          rw [ec]
          unfold ltK at *; omega
        · exact g1 c hc hcl ec
      · have hlt:=of_decide_eq_true hlt
        refine swap_ok (by omega) (by omega) (hn' _ ⟨j,rfl,(swp_perm (by omega) (by omega)).trans hp,?_,.inl hjn,?_,?_⟩ (by simp only [Int.toNat_natCast]; omega))
        · intro q hq
          rw [swp_get (by omega) (by omega),if_neg (by omega),if_neg (by omega)]
          exact hr q hq
        · intro c hc hcl hne
          rw [swp_key (by omega) (by omega),swp_key (by omega) (by omega)]
          by_cases ec:c=j
          · subst ec
            rw [if_pos rfl,if_neg (by omega),if_pos hji]
            unfold ltK at *; omega
          · rw [if_neg ec]
            by_cases ei:c=i
            · subst ei
              rw [if_pos rfl,if_neg hne,if_neg (by omega)]
              exact g2 j hj0 hjn hji hc
            · rw [if_neg ei,if_neg hne]
              by_cases ep:(c - 1) / 2=i
              · rw [if_pos ep]; exact hmin c hc hcl ep
              · rw [if_neg ep]; exact g1 c hc hcl ep
        · intro c hc hcl he _
          rw [swp_key (by omega) (by omega),swp_key (by omega) (by omega),if_neg (by omega),if_neg (by omega),if_neg (by omega),if_pos hji]
          have:=g1 c hc hcl (by omega)
          rwa [he] at this
    · intro k' hk'
      refine ifP_dec (fun h2=>hless_ok hf' (by omega) (by omega) ⟨fun hlt=>?_,fun hlt=>?_⟩) (fun h2=>?_)
      · refine hk' _ ⟨2*i+2,rfl,by omega,by omega,by omega,fun c hc hcl he=>?_⟩
        have hlt:=of_decide_eq_true hlt
        rcases (show c=2*i+1∨c=2*i+2 by omega) with e | e
        · subst e; unfold ltK at *; omega
        · subst e; exact ltK_irrefl _
      · refine hk' _ ⟨2*i+1,rfl,by omega,by omega,by omega,fun c hc hcl he=>?_⟩
        have hlt:=of_decide_eq_false hlt
        rcases (show c=2*i+1∨c=2*i+2 by omega) with e | e
        · subst e; exact ltK_irrefl _
        · subst e; exact hlt
      · refine hk' _ ⟨2*i+1,rfl,by omega,by omega,by omega,fun c hc hcl he=>?_⟩
        rcases (show c=2*i+1∨c=2*i+2 by omega) with e | e
        · subst e; exact ltK_irrefl _
        · omega
theorem pop_ok {o:Push_merger} {Q:Push_head×Push_merger→Prop} (hl:o.heads.length≤1000000000) (hf:full o.heads) (hh:Heap o.heads o.heads.length) (h0:o.heads≠[])
    (hQ:∀ x H,(gH o.heads 0 :: H).Perm o.heads→Heap H H.length→Q (x,⟨H,o.r,o.out⟩)):container_heap_Pop_4c3 o Q:=by
  unfold container_heap_Pop_4c3 push_heads_Len_66a
  have hlen:0<o.heads.length:=List.length_pos_iff.2 h0
  have e:w64 ((o.heads.length:Int) - 1)=((o.heads.length - 1:Nat):Int):=by rw [w64_id (by omega) (by omega)]; omega
  simp only [e]
  have hs0:0<o.heads.length:=hlen
  refine swap_ok (i:=0) hlen (by omega) ?_
  have hp0:=swp_perm (H:=o.heads) (i:=0) (k:=o.heads.length - 1) hlen (by omega)
  refine down_ok (o:=⟨swp o.heads 0 (o.heads.length - 1),o.r,o.out⟩) (n:=o.heads.length - 1) (by simp only [swp_len]; omega) (full_perm hf hp0) (by simp only [swp_len]; omega) ?_ ?_
  · intro c hc hcl hne
    simp only
    rw [swp_key hlen (by omega),swp_key hlen (by omega),if_neg (by omega),if_neg (by omega),if_neg (by omega),if_neg hne]
    exact hh c hc (by omega)
  · intro b H hp hH hr
    simp only at hp hr
    have hlH:H.length=o.heads.length:=hp.length_eq.trans (swp_len _ _ _)
    unfold push_heads_Pop_df2
    have e':w64 ((H.length:Int) - 1)=((o.heads.length - 1:Nat):Int):=by rw [hlH]; exact e
    simp only [e']
    refine idxP_intro (by omega) (gH_get (by simp only [Int.toNat_natCast]; omega)) ⟨by omega,by omega,by omega,?_⟩
    simp only [Int.toNat_natCast]
    refine hQ _ _ ?_ ?_
    · have hlast:=hr (o.heads.length - 1) (by omega)
      rw [swp_get hlen (by omega),if_pos rfl] at hlast
      rw [←hlast]
      have h3:H=H.take (o.heads.length - 1)++[gH H (o.heads.length - 1)]:=by
        have h4:H[o.heads.length - 1]'(by omega)=gH H (o.heads.length - 1):=by have:=gH_get (H:=H) (i:=o.heads.length - 1) (by omega); rw [List.getElem?_eq_getElem (by omega)] at this; exact Option.some.inj this
        rw [←h4,List.take_append_getElem (by omega),List.take_of_length_le (by omega)]
      exact (List.perm_append_comm (l₁:=[gH H (o.heads.length - 1)])).trans ((h3▸.refl _:(H.take (o.heads.length - 1)++[gH H (o.heads.length - 1)]).Perm H).trans (hp.trans hp0))
    · intro j hj hjl
      rw [List.length_take] at hjl
      have hk:∀ c,c<o.heads.length - 1→hKey (H.take (o.heads.length - 1)) c=hKey H c:=by
        intro c hc; simp [hKey,gH,List.getD_eq_getElem?_getD,List.getElem?_take,hc]
      rw [hk j (by omega),hk _ (by omega)]
      exact hH j hj (by omega)
end Go.Proofs.YtpackolbhcmomaaGreat
