import Derived.Test.YtaefnmlbnkmahaaGreatLetA
namespace Go.Proofs.YtaefnmlbnkmahaaGreat
open Go Go.Fw
set_option linter.unusedVariables false
set_option linter.unusedSimpArgs false
def hearO (r:Int):Option Wide→Int×Bool×Int
  | none=>(0,false,0)
  | some w=>if (narS w).2=false then (0,false,12) else if (narS w).1=zS r then (0,false,0) else ((narS w).1,true,0)
theorem hearO_some (r:Int) (w:Wide):hearO r (some w)=if (narS w).2=false then (0,false,12) else if (narS w).1=zS r then (0,false,0) else ((narS w).1,true,0):=rfl
def hearS (r:Int) (l:List Wide):Int×Bool×Int:=hearO r (sumW r l)
def hearV (p:Plan) (l:List Edge) (s:State) (round:Int) (v:Nat):Int×Bool×Int:=
  if askF (askS p s).1 (askS p s).2 v=true then hearS (ringPl p.Kind round) (mailS (ringPl p.Kind round) (outVS p s round).Items l v) else (0,false,0)
def badV (p:Plan) (l:List Edge) (s:State) (round:Int):Bool:=(List.range p.N.toNat).any fun v=>(hearV p l s round v).2.2 != 0
def itemsV (p:Plan) (l:List Edge) (s:State) (round:Int) (n:Nat):List Item:=outI n fun v=>((hearV p l s round v).1,(hearV p l s round v).2.1)
def stepV (p:Plan) (l:List Edge) (s:State) (round:Int):State×Int:=
  if badV p l s round=true then (zSt,12) else (updS p s round ⟨p.N,itemsV p l s round p.N.toNat⟩,0)
theorem badV_iff {p:Plan} {l:List Edge} {s:State} {round:Int}:badV p l s round=true↔∃ v,v<p.N.toNat∧(hearV p l s round v).2.2≠0:=by
  unfold badV
  rw [List.any_eq_true]
  constructor
  · rintro ⟨v,hv,h⟩; exact ⟨v,List.mem_range.1 hv,by simpa using h⟩
  · rintro ⟨v,hv,h⟩; exact ⟨v,List.mem_range.2 hv,by simpa using h⟩
theorem hear_err {r:Int} {l:List Wide}:(hearS r l).2.2=0∨hearS r l=(0,false,12):=by
  unfold hearS
  cases sumW r l with
  | none=>exact .inl rfl
  | some w=>
    rw [hearO_some]
    by_cases h1:(narS w).2=false
    · rw [if_pos h1]; exact .inr rfl
    · rw [if_neg h1]
      left
      split <;> rfl
theorem stepV_seg {p:Plan} {n:Nat} {l:List Edge} {T:List Triple} {round:Int} {G:GV} (hp:rightPl p=0) (hn:p.N=n) (hT:Canon n n T) (h:LinkP n l T):stepV p l (segV 0 n G) round=stepS p T (segV 0 n G) round:=by
  have hn4:n≤4096:=by have:=(rightPl_zero hp).2.1; omega
  have ht:p.N.toNat=n:=by omega
  have hout:(outVS p (segV 0 n G) round).Items=outI n fun i=>tellG p round i (G i):=by
    rw [out_seg hp (by omega)]
    exact outI_congr fun i _=>by rw [Nat.zero_add]
  have hhv:∀ v,v<n→hearV p l (segV 0 n G) round v=if askG p (G v)=true then hearO (ringPl p.Kind round) (rowG p T n round G v) else (0,false,0):=fun v hv=>by
    unfold hearV hearS
    rw [ask_seg hn4 hv,hout,←row_mail (round:=round) (G:=G) hT h v]
  have hs:=step_seg (T:=T) (G:=G) (round:=round) hp hn
  unfold stepV
  by_cases hb:badV p l (segV 0 n G) round=true
  · rw [if_pos hb]
    obtain ⟨v,hv,h1⟩:=badV_iff.1 hb
    rw [ht] at hv
    rw [hhv v hv] at h1
    refine (hs.1 ?_).symm
    by_cases ha:askG p (G v)=true
    · rw [if_pos ha] at h1
      cases hr:rowG p T n round G v with
      | none=>rw [hr] at h1; exact absurd rfl h1
      | some w=>
        rw [hr] at h1
        rw [hearO_some] at h1
        by_cases hw:(narS w).2=false
        · exact ⟨v,w,hv,ha,hr,hw⟩
        · rw [if_neg hw] at h1
          split at h1 <;> exact absurd rfl h1
    · rw [if_neg ha] at h1; exact absurd rfl h1
  · rw [if_neg hb]
    have hall:∀ v w,v<n→askG p (G v)=true→rowG p T n round G v=some w→(narS w).2=true:=fun v w hv ha hw=>by
      cases hx:(narS w).2 with
      | true=>rfl
      | false=>
        refine absurd (badV_iff.2 ⟨v,by omega,?_⟩) hb
        rw [hhv v hv,if_pos ha,hw]
        rw [hearO_some,if_pos hx]; decide
    rw [hs.2 hall,ht]
    rw [upd_seg (Y:=hearG p T n round G) hp (by omega) (y:=⟨p.N,itemsV p l (segV 0 n G) round n⟩) (by rw [hn]; exact out_vecP hn4 _) hn]
    intro i hi
    show lkI (outI n _) (i:Int)=_
    rw [outI_lk,Nat.zero_add,hhv i hi]
    unfold hearG
    by_cases ha:askG p (G i)=true
    · rw [if_pos ha,if_pos ha]
      cases hr:rowG p T n round G i with
      | none=>simp [hearO]
      | some w=>
        have hx:=hall i w hi ha hr
        simp only [Option.bind_some]
        have e:hearO (ringPl p.Kind round) (some w)=if (narS w).1=zS (ringPl p.Kind round) then (0,false,0) else ((narS w).1,true,0):=by
          rw [hearO_some,if_neg (by rw [hx]; simp)]
        rw [e]
        unfold nzW
        by_cases hz:(narS w).1=zS (ringPl p.Kind round)
        · rw [if_pos hz,if_neg (fun h=>by cases h.2),if_neg (fun h=>h hz)]
        · rw [if_neg hz,if_pos ⟨hi,rfl⟩,if_pos hz]
    · rw [if_neg ha,if_neg ha,if_neg (fun h=>by cases h.2)]
def totN:Nat→(Nat→Nat)→Nat
  | 0,_=>0
  | n+1,f=>totN n f+f n
theorem totN_le {f:Nat→Nat} {c:Nat}:∀ {n:Nat},(∀ i,i<n→f i≤c)→totN n f≤n*c
  | 0,_=>by simp [totN]
  | n+1,h=>by
    unfold totN
    have:=totN_le (n:=n) fun i hi=>h i (by omega)
    have:=h n (by omega)
    rw [Nat.add_mul]; omega
def lettersL (r:Int) (x:List Item) (l:List Edge):Nat:=(l.filterMap (letS r x)).length
theorem letters_le {r:Int} {x:List Item} {l:List Edge}:lettersL r x l≤l.length:=List.length_filterMap_le _ _
def cntS (p:Plan) (T:List Triple) (l:List Edge) (n:Nat):Nat:=totN n fun k=>lettersL (ringPl p.Kind ((k:Int)+1)) (outVS p (seqS p T k) ((k:Int)+1)).Items l
theorem cnt_le {p:Plan} {T:List Triple} {l:List Edge} {n:Nat}:cntS p T l n≤n*l.length:=totN_le fun _ _=>letters_le
def linksE (p:Plan) (g:Graph):List Edge×Int:=if (matS p g).2≠0 then ([],(matS p g).2) else (linkS p g,0)
theorem graph_inI {g:Graph} (hg:rightG g=0):∀ e∈g.Edges,inI e.W:=fun e he=>by
  have:=(rightG_zero hg).2.2.2.2 e he
  unfold wOk at this; unfold inI; omega
theorem vertex_named_ok {p:Plan} {g:Graph} {Q:Graph→Prop} (hg:rightG g=0) (hQ:∀ r:Graph,r.Edges=linkS p g→Q r):vertex_named p g Q:=by
  unfold vertex_named
  have hl:=(rightG_zero hg).2.2.1
  have hv:=graph_inI hg
  have hs:=simp_props hl hv
  have hb:=both_props hl hv
  have hsb:=both_props hs.1 hs.2
  refine ifP_eq (fun h5=>simple_ok (by omega) hv (both_ok (by omega) hs.2 (plain_ok (by omega) (hQ _ ?_)))) (fun h5=>ifP_eq (fun h3=>both_ok (by omega) hv (plain_ok (by omega) (hQ _ ?_))) (fun h3=>ifP_eq (fun h1=>plain_ok (by omega) (hQ _ ?_)) (fun h1=>edges_Canon_ok (by omega) hv (hQ _ ?_))))
  · unfold linkS namG; rw [if_pos (.inl h5),if_pos h5]
  · unfold linkS namG; rw [if_pos (by omega),if_neg h5,if_pos h3]
  · unfold linkS namG; rw [if_pos (by omega),if_neg h5,if_neg h3,if_pos h1]
  · unfold linkS; rw [if_neg (by omega)]
theorem vertex_Links_ok {p:Plan} {g:Graph} {Q:List Edge×Int→Prop} (hQ:Q (linksE p g)):vertex_Links p g Q:=by
  unfold vertex_Links
  unfold linksE at hQ
  refine prog_Matrix_ok (ifP_ne (fun h=>by rwa [if_pos h] at hQ) (fun h=>?_))
  rw [if_neg (fun h'=>h' h)] at hQ
  exact vertex_named_ok (mat_T h).2.2.1 fun r hr=>by rw [hr]; exact hQ
theorem link_len {p:Plan} {g:Graph} (hg:goodE g.N g.Edges):(linkS p g).length≤2*g.Edges.length:=by
  unfold linkS
  split
  · exact (nam_good hg).2.2.1
  · have:=canon_len (goodE_in hg); omega
theorem map_set {α:Type} (n u:Nat) (f:Nat→α) (y:α):(mapN n f).set u y=mapN n fun v=>if v=u then y else f v:=by
  apply List.ext_getElem
  · simp [mapN]
  · intro i h1 h2
    rw [List.getElem_set]
    simp only [mapN,List.getElem_map,List.getElem_range]
    by_cases e:u=i
    · rw [if_pos e,if_pos e.symm]
    · rw [if_neg e,if_neg fun h=>e h.symm]
theorem map_get {α:Type} {n u:Nat} {f:Nat→α} (h:u<n):(mapN n f)[u]? = some (f u):=by
  simp [mapN,h]
theorem mail_app (r:Int) (x:List Item) (a b:List Edge) (v:Int):mailS r x (a++b) v=mailS r x a v++mailS r x b v:=by
  unfold mailS; rw [List.filter_append,List.filterMap_append]
theorem mail_nil (r:Int) (x:List Item) (l:List Edge) (n:Nat):List.replicate n ([]:List Wide)=mapN n fun v=>mailS r x (l.take 0) v:=by
  apply List.ext_getElem
  · simp [mapN]
  · intro i h1 h2
    simp [mapN,mailS]
theorem mail_none {r:Int} {x:List Item} {l:List Edge} {n i:Nat} (hi:i<l.length) (h:letS r x l[i]=none):(mapN n fun v=>mailS r x (l.take (i+1)) v)=mapN n fun v=>mailS r x (l.take i) v:=by
  refine mapN_congr fun v _=>?_
  rw [List.take_succ_eq_append_getElem hi,mail_app]
  have:mailS r x [l[i]] v=[]:=by
    unfold mailS
    rw [List.filter_cons]
    split
    · rw [List.filterMap_cons,h]; rfl
    · rfl
  rw [this,List.append_nil]
theorem mail_some {r:Int} {x:List Item} {l:List Edge} {n i u:Nat} {w:Wide} (hi:i<l.length) (hu:l[i].To=u) (h:letS r x l[i]=some w) :
    (mapN n fun v=>mailS r x (l.take i) v).set u (mailS r x (l.take i) u++[w])=mapN n fun v=>mailS r x (l.take (i+1)) v:=by
  rw [map_set]
  refine mapN_congr fun v _=>?_
  rw [List.take_succ_eq_append_getElem hi,mail_app]
  by_cases e:v=u
  · subst e
    rw [if_pos rfl]
    have:mailS r x [l[i]] v=[w]:=by
      unfold mailS
      rw [List.filter_cons,if_pos (by simp [hu]),List.filterMap_cons,h]; rfl
    rw [this]
  · rw [if_neg e]
    have:mailS r x [l[i]] v=[]:=by
      unfold mailS
      rw [List.filter_cons,if_neg (by simp [hu]; omega)]; rfl
    rw [this,List.append_nil]
def mailN (p:Plan) (l:List Edge) (s:State) (round:Int):List (List Wide):=mapN p.N.toNat fun v=>mailS (ringPl p.Kind round) (outVS p s round).Items l v
theorem vertex_letters_ok {p:Plan} {l:List Edge} {s:State} {round:Int} {Q:List Edge×List (Int×Int)×Int→Prop} (hs:Whole p s) (hr:0≤round∧round≤1000000)
    (hQ:∀ told:List (Int×Int),(∀ k,mget k told=lkI (outVS p s round).Items k)→Q (l,told,ringPl p.Kind round)):vertex_letters_c5d p l s round Q:=by
  unfold vertex_letters_c5d
  have ho:=(hs.out round).1
  have hlen:=ho.len
  refine prog_Out_ok hs.ok hr ?_
  generalize (outVS p s round)=v at ho hlen hQ ⊢
  refine range_intro (fun (s:List (Int×Int)) i=>(s,i)) 0 v.Items.length (by omega) (fun i s=>∀ k,mget k s=lkI (v.Items.take i) k) (by omega) (s0:=[]) (fun k=>rfl) (fun i s next _ hi hm hn=>?_) (fun s next hm=>?_)
  · refine ifP_dec (fun _=>idxP_nat hi (hn _ fun k=>?_)) (fun h=>by omega)
    rw [List.take_succ_eq_append_getElem hi,lkI_append]
    by_cases e:k=v.Items[i].At
    · subst e
      rw [mget_mput_same,lkI_none,lkI_cons,if_pos rfl]
      intro y hy
      obtain ⟨j,hj,rfl⟩:=List.mem_iff_getElem.1 hy
      rw [List.length_take] at hj
      rw [List.getElem_take]
      have:=(List.pairwise_iff_getElem.1 ho.inc) j i (by omega) hi (by omega)
      omega
    · rw [mget_mput_other e,hm k]
      cases lkI (v.Items.take i) k with
      | some y=>rfl
      | none=>rw [lkI_cons,if_neg e]; rfl
  · rw [List.take_length] at hm
    exact ifP_dec (fun h=>by omega) (fun _=>prog_Ring_ok (hQ s hm))
theorem vertex_wrong_ok {p:Plan} {l:List Edge} {s:State} {Q:Int→Prop} (hp:rightPl p=0) (hs:Whole p s) (hl:l.length≤1000000) (hb:(∃ e∈l,¬inE p.N e)→Q 3) (hQ:(∀ e∈l,inE p.N e)→Q 0):vertex_wrong p l s Q:=by
  unfold vertex_wrong vertex_whole
  have hz:=rightPl_zero hp
  have e:sizN s=p.N.toNat:=by unfold sizN; have:=hs.lo; have:=hs.hi; omega
  have hal:=hs.st.2.2.2.2.1; have hbl:=hs.st.2.2.2.2.2.1; have hr:=hs.st.2.2.2.2.2.2
  rw [hs.hi,hs.lo,Int.sub_zero] at hr
  refine prog_Right_ok (ifP_neg (by simp [hp]) (ifP_pos (by simp [hs.lo]) (ifP_pos (by simp [hs.hi]) (ifP_pos (by simp only [beq_iff_eq]; omega) (ifP_pos (by simp only [beq_iff_eq]; omega) (flags_Right_ok hs.ok.1 hs.ok.2 ?_))))))
  rw [decide_eq_true hr]
  refine ifP_neg rfl ?_
  unfold slices_ContainsFunc_api_Edge_api_Edge_64d slices_IndexFunc_api_Edge_api_Edge_0b4
  refine scan_intro l.length (by omega) (fun k=>∀ j (hj:j<l.length),j<k→inE p.N l[j]) (fun j _ h=>by omega) (fun k next hk hR hn=>?_) (fun next hR=>?_)
  · refine ifP_dec (fun _=>idxP_nat hk ?_) (fun h=>by omega)
    unfold vertex_wrong_1_7a4
    have hyes:¬inE p.N l[k]→ifP true (ifP (decide (0≤(k:Int))) (Q 3) (Q 0)) (next (w64 ((k:Int)+1))):=fun h=>ifP_pos rfl (ifP_dec (fun _=>hb ⟨_,List.getElem_mem hk,h⟩) (fun h=>by omega))
    refine ifP_dec (fun h=>hyes fun hi=>?_) (fun h=>?_)
    · unfold inE at hi; split at h <;> omega
    · by_cases h2:p.N≤(if l[k].To > l[k].From then l[k].To else l[k].From)
      · rw [decide_eq_true h2]
        exact hyes fun hi=>by unfold inE at hi; split at h2 <;> omega
      · rw [decide_eq_false h2]
        refine ifP_neg rfl (hn fun j hj hjk=>?_)
        by_cases ej:j=k
        · subst ej
          unfold inE
          split at h <;> split at h2 <;> omega
        · exact hR j hj (by omega)
  · refine ifP_dec (fun h=>by omega) (fun _=>ifP_dec (fun h=>by omega) (fun _=>hQ fun e he=>?_))
    obtain ⟨j,hj,rfl⟩:=List.mem_iff_getElem.1 he
    exact hR j hj hj
theorem vertex_Mail_ok {p:Plan} {l:List Edge} {s:State} {round:Int} {Q:List (List Wide)×Int→Prop} (hp:rightPl p=0) (hs:Whole p s) (hr:0≤round∧round≤1000000) (hl:l.length≤1000000) (hw:∀ e∈l,inI e.W)
    (hb:(∃ e∈l,¬inE p.N e)→Q ([],3)) (hQ:(∀ e∈l,inE p.N e)→Q (mailN p l s round,0)):vertex_Mail p l s round Q:=by
  unfold vertex_Mail
  have hz:=rightPl_zero hp
  have ho:=hs.out round
  refine vertex_wrong_ok hp hs hl (fun h=>ifP_pos rfl (hb h)) (fun hin=>ifP_neg rfl ⟨by omega,by omega,vertex_letters_ok hs hr fun told ht=>?_⟩)
  have hQ:=hQ hin
  unfold mailN at hQ
  unfold vertex_letters_1_4e8
  try dsimp only
  refine range_intro (fun (s:List (List Wide)) i=>(s,i,(0:Nat))) 0 l.length (by omega) (fun i o=>o=mapN p.N.toNat fun v=>mailS (ringPl p.Kind round) (outVS p s round).Items (l.take i) v) (by omega) ?_ (fun i o next _ hi hm hn=>?_) (fun o next hm=>?_)
  · exact mail_nil _ _ _ _
  · subst hm
    try dsimp only
    have he:=hin _ (List.getElem_mem hi)
    unfold inE at he
    refine ifP_dec (fun _=>idxP_nat hi ?_) (fun h=>by omega)
    unfold lk2P
    rw [ht]
    cases hx:lkI (outVS p s round).Items l[i].From with
    | none=>
      refine ifP_neg rfl (hn _ ?_)
      rw [mail_none hi (by unfold letS; rw [hx]; rfl)]
    | some y=>
      refine ifP_pos rfl (ring_Mul_ok (hw _ (List.getElem_mem hi)) (ho.2.1 _ (lkI_mem hx)) ⟨rfl,?_⟩)
      obtain ⟨u,hu⟩:∃ u:Nat,l[i].To=u:=⟨l[i].To.toNat,by omega⟩
      rw [hu]
      have hg:=map_get (n:=p.N.toNat) (u:=u) (f:=fun v=>mailS (ringPl p.Kind round) (outVS p s round).Items (l.take i) v) (by omega)
      have hml:(mailS (ringPl p.Kind round) (outVS p s round).Items (l.take i) u).length≤1000000:=by
        unfold mailS
        have h1:=List.length_filterMap_le (letS (ringPl p.Kind round) (outVS p s round).Items) ((l.take i).filter fun e=>decide (e.To=(u:Int)))
        have h2:=List.length_filter_le (fun e:Edge=>decide (e.To=(u:Int))) (l.take i)
        rw [List.length_take] at h2
        omega
      refine idxP_intro (by omega) hg (appP_intro (by rw [List.length_singleton]; omega) (idxP_intro (by omega) hg (ifP_neg rfl (hn _ ?_))))
      try dsimp only
      rw [Int.toNat_natCast]
      exact mail_some hi hu (by unfold letS; rw [hx]; rfl)
  · subst hm
    try dsimp only
    rw [List.take_length]
    exact ifP_dec (fun h=>by omega) (fun _=>⟨rfl,hQ⟩)
theorem sum_take {r:Int} {l:List Wide} {i:Nat} (h:i<l.length):sumW r (l.take (i+1))=cmb r (sumW r (l.take i)) (some l[i]):=by
  unfold sumW
  rw [List.take_succ_eq_append_getElem h,List.foldl_append]
  rfl
theorem hear_fin {r:Int} {l:List Wide} {w:Wide} {Q:Int×Bool×Int→Prop} (hw:sumW r l=some w) (hQ:Q (hearS r l)):ifP (!(narS w).2) (Q (0,false,12)) (ifP ((narS w).1==zS r) (Q (0,false,0)) (Q ((narS w).1,true,0))):=by
  unfold hearS at hQ
  rw [hw] at hQ
  rw [hearO_some] at hQ
  refine ifP_not (fun h=>?_) (fun h=>?_)
  · rw [if_pos h] at hQ; exact hQ
  · rw [if_neg (by rw [h]; simp)] at hQ
    refine ifP_eq (fun h1=>?_) (fun h1=>?_)
    · rw [if_pos h1] at hQ; exact hQ
    · rw [if_neg h1] at hQ; exact hQ
theorem sumW_okW {r:Int} {l:List Wide} (h:∀ w∈l,okW w):okO (sumW r l):=sum_okO h fun _ h=>by cases h
theorem vertex_Hear_ok {k round:Int} {l:List Wide} {Q:Int×Bool×Int→Prop} (hl:l.length≤100000000) (hw:∀ w∈l,okW w) (hQ:Q (if ringPl k round=0 then (0,false,8) else hearS (ringPl k round) l)):vertex_Hear k round l Q:=by
  unfold vertex_Hear
  refine prog_Ring_ok (ifP_eq (fun h=>by rwa [if_pos h] at hQ) (fun h=>?_))
  rw [if_neg h] at hQ
  unfold vertex_summer_6fc
  try dsimp only
  refine range_intro (fun (s:Bool×Wide) i=>(s.1,s.2.Hi,s.2.Lo,i)) 0 l.length (by omega) (fun i s=>(s.1=true→sumW (ringPl k round) (l.take i)=some s.2)∧(s.1=false→i=0)) (by omega) (s0:=(false,⟨0,0⟩)) ⟨fun h=>(by cases h),fun _=>rfl⟩ (fun i s next _ hi hm hn=>?_) (fun s next hm=>?_)
  · obtain ⟨b,a⟩:=s
    obtain ⟨h1,h2⟩:=hm
    dsimp only at h1 h2 ⊢
    refine ifP_dec (fun _=>idxP_nat hi ?_) (fun h=>by omega)
    unfold vertex_summer_1_b72
    cases b with
    | true=>
      have ha:okW a:=sumW_okW (l:=l.take i) (fun w hx=>hw w (List.mem_of_mem_take hx)) a (h1 rfl)
      refine ifP_pos rfl (ring_Add_ok ha (hw _ (List.getElem_mem hi)) (hn (true,_) ⟨fun _=>?_,fun h=>by cases h⟩))
      rw [sum_take hi,h1 rfl]; rfl
    | false=>
      have:=h2 rfl
      subst this
      refine ifP_neg rfl (hn (true,_) ⟨fun _=>?_,fun h=>by cases h⟩)
      rw [sum_take hi]; rfl
  · obtain ⟨b,a⟩:=s
    obtain ⟨h1,h2⟩:=hm
    dsimp only at h1 h2 ⊢
    refine ifP_dec (fun h=>by omega) (fun _=>?_)
    unfold vertex_summer_2_cdb
    rw [List.take_length] at h1
    cases b with
    | true=>
      have ha:okW a:=sumW_okW hw a (h1 rfl)
      have hf:=hear_fin (h1 rfl) hQ
      exact ifP_neg rfl (narrow_ok (r:=0) (Q:=fun r260=>ifP (!r260.2) (Q (0,false,12)) (ring_Zero (ringPl k round) fun r265=>ifP (r260.1==r265) (Q (0,false,0)) (Q (r260.1,true,0)))) ha ⟨fun h=>hf.1 h,fun h=>ring_Zero_ok (hf.2 h)⟩)
    | false=>
      have:l=[]:=List.length_eq_zero_iff.1 (h2 rfl)
      subst this
      exact ifP_pos rfl hQ
theorem ref35_Hear_ok {k round:Int} {l:List Wide} {Q:Int×Bool×Int→Prop} (hl:l.length≤100000000) (hw:∀ w∈l,okW w) (hQ:Q (if ringPl k round=0 then (0,false,8) else hearS (ringPl k round) l)):ref35_Hear k round l Q:=by
  unfold ref35_Hear
  refine ref_Ring_ok (ifP_eq (fun h=>by rwa [if_pos h] at hQ) (fun h=>?_))
  rw [if_neg h] at hQ
  refine ifP_eq (fun h0=>?_) (fun h0=>?_)
  · have:l=[]:=List.length_eq_zero_iff.1 (by omega)
    subst this
    exact hQ
  · have hpos:0<l.length:=by omega
    refine idxP_intro (x:=l[0]) (by omega) (by simp [hpos]) ?_
    refine range_intro (fun (s:Wide) i=>(s.Hi,s.Lo,i)) 1 l.length (by omega) (fun i s=>sumW (ringPl k round) (l.take i)=some s) (by omega) (s0:=l[0]) ?_ (fun i s next _ hi hm hn=>?_) (fun s next hm=>?_)
    · rw [sum_take hpos]; rfl
    · refine ifP_dec (fun _=>idxP_nat hi ?_) (fun h=>by omega)
      have ha:okW s:=sumW_okW (l:=l.take i) (fun w hx=>hw w (List.mem_of_mem_take hx)) s hm
      refine ref02_Add_ok ha (hw _ (List.getElem_mem hi)) (hn _ ?_)
      rw [sum_take hi,hm]; rfl
    · rw [List.take_length] at hm
      have ha:okW s:=sumW_okW hw s hm
      have hf:=hear_fin hm hQ
      refine ifP_dec (fun h=>by omega) (fun _=>ref01_narrow_ok ha ?_)
      exact ⟨fun h=>hf.1 h,fun h=>ref02_Zero_ok (hf.2 h)⟩
theorem vertex_Step_ok {p:Plan} {l:List Edge} {s:State} {round:Int} {Q:State×Int→Prop} (hp:rightPl p=0) (hs:Whole p s) (hr:0≤round∧round≤1000000) (hl:l.length≤1000000) (hw:∀ e∈l,inI e.W)
    (hin:∀ e∈l,inE p.N e) (hQ:Q (stepV p l s round)):vertex_Step p l s round Q:=by
  unfold vertex_Step
  have hz:=rightPl_zero hp
  have hrg:=ringPl_b hz.1 round
  refine vertex_Mail_ok hp hs hr hl hw (fun ⟨e,he,h⟩=>absurd (hin e he) h) (fun _=>ifP_neg rfl (hs.ask ?_))
  try dsimp only
  unfold mailN
  have hstep:∀ i,i<p.N.toNat→askF (askS p s).1 (askS p s).2 (i:Int)=true→hearV p l s round i=hearS (ringPl p.Kind round) (mailS (ringPl p.Kind round) (outVS p s round).Items l i):=fun i _ ha=>by unfold hearV; rw [if_pos ha]
  refine range_intro (fun (s:List Item) i=>(s,i)) 0 p.N.toNat (by omega) (fun i o=>o=itemsV p l s round i∧∀ v,v<i→(hearV p l s round v).2.2=0) (by omega) (s0:=[]) ⟨rfl,fun v h=>by omega⟩ (fun i o next _ hi hm hn=>?_) (fun o next hm=>?_)
  · obtain ⟨rfl,hz0⟩:=hm
    try dsimp only
    have hg:=map_get (n:=p.N.toNat) (u:=i) (f:=fun v=>mailS (ringPl p.Kind round) (outVS p s round).Items l v) hi
    have hml:(mailS (ringPl p.Kind round) (outVS p s round).Items l i).length≤1000000:=by
      unfold mailS
      have h1:=List.length_filterMap_le (letS (ringPl p.Kind round) (outVS p s round).Items) (l.filter fun e=>decide (e.To=(i:Int)))
      have h2:=List.length_filter_le (fun e:Edge=>decide (e.To=(i:Int))) l
      omega
    have hol:(itemsV p l s round i).length≤i:=by
      have:=List.length_filterMap_le (fun j=>if (hearV p l s round j).2.1 then some (⟨j,(hearV p l s round j).1⟩:Item) else none) (List.range i)
      rw [List.length_range] at this
      exact this
    have hsucc:itemsV p l s round (i+1)=if (hearV p l s round i).2.1 then itemsV p l s round i++[⟨i,(hearV p l s round i).1⟩] else itemsV p l s round i:=outI_succ i _
    have hkeep:(hearV p l s round i).2.2=0→∀ v,v<i+1→(hearV p l s round v).2.2=0:=fun h v hv=>by
      by_cases e:v=i
      · subst e; exact h
      · exact hz0 v (by omega)
    refine ifP_dec (fun _=>idxP_intro (by omega) hg (flags_Has_ok (ask_okF p s) (by unfold inI; omega) ?_)) (fun h=>absurd (show (i:Int)<((mapN p.N.toNat _).length:Int) by rw [mapN_len]; omega) h)
    by_cases ha:askF (askS p s).1 (askS p s).2 (i:Int)=true
    · have he:=hstep i hi ha
      refine ifP_neg (by unfold askF at ha; simpa using ha) (vertex_Hear_ok (by omega) mail_okW ?_)
      rw [if_neg (by omega),←he]
      refine ifP_ne (fun h=>?_) (fun h=>?_)
      · unfold stepV at hQ
        rw [if_pos (badV_iff.2 ⟨i,hi,h⟩)] at hQ
        have h12:(hearV p l s round i).2.2=12:=by
          rw [he] at h ⊢
          rcases hear_err (r:=ringPl p.Kind round) (l:=mailS (ringPl p.Kind round) (outVS p s round).Items l i) with h' | h'
          · exact absurd h' h
          · rw [h']
        rw [h12]; exact hQ
      · refine ⟨fun hb=>appP_intro (by rw [List.length_singleton]; omega) (hn _ ⟨?_,hkeep h⟩),fun hb=>hn _ ⟨?_,hkeep h⟩⟩
        · rw [hsucc,hb]; rfl
        · rw [hsucc,hb]; rfl
    · have he:hearV p l s round i=(0,false,0):=by unfold hearV; rw [if_neg ha]
      refine ifP_pos (by unfold askF at ha; simpa using ha) (hn _ ⟨?_,hkeep (by rw [he])⟩)
      rw [hsucc,he]; rfl
  · obtain ⟨rfl,hz0⟩:=hm
    try dsimp only
    refine ifP_dec (fun h=>by rw [mapN_len] at h; omega) (fun _=>?_)
    unfold stepV at hQ
    rw [if_neg (fun h=>by obtain ⟨v,hv,h1⟩:=badV_iff.1 h; exact h1 (hz0 v hv))] at hQ
    have hol:(itemsV p l s round p.N.toNat).length≤p.N.toNat:=by
      have:=List.length_filterMap_le (fun j=>if (hearV p l s round j).2.1 then some (⟨j,(hearV p l s round j).1⟩:Item) else none) (List.range p.N.toNat)
      rw [List.length_range] at this
      exact this
    exact prog_Update_ok hs.ok hr (by dsimp only; omega) hQ
structure VRun (p:Plan) (g:Graph) (limit:Int) (n:Nat) (st:Int) (N:Nat):Prop where
  run:MRun p g limit (graphT (namG p g)) n st
  hN:p.N=N
  gn:g.N=p.N
  hg:rightG g=0
  len:g.Edges.length≤60
theorem VRun.mat {p:Plan} {g:Graph} {limit:Int} {n N:Nat} {st:Int} (R:VRun p g limit n st N):MatP p N (graphT (namG p g)):=mat_P R.run.rp R.gn R.hN R.hg (by have:=R.len; omega)
theorem VRun.link {p:Plan} {g:Graph} {limit:Int} {n N:Nat} {st:Int} (R:VRun p g limit n st N):LinkP N (linkS p g) (graphT (namG p g)):=link_P (R.gn.trans R.hN) (right_good R.hg)
theorem VRun.llen {p:Plan} {g:Graph} {limit:Int} {n N:Nat} {st:Int} (R:VRun p g limit n st N):(linkS p g).length≤120:=by
  have:=link_len (p:=p) (right_good R.hg); have:=R.len; omega
theorem VRun.lw {p:Plan} {g:Graph} {limit:Int} {n N:Nat} {st:Int} (R:VRun p g limit n st N):∀ e∈linkS p g,inI e.W:=goodE_in R.link.good
theorem VRun.lin {p:Plan} {g:Graph} {limit:Int} {n N:Nat} {st:Int} (R:VRun p g limit n st N):∀ e∈linkS p g,inE p.N e:=fun e he=>by rw [R.hN]; exact (R.link.good e he).1
theorem VRun.links {p:Plan} {g:Graph} {limit:Int} {n N:Nat} {st:Int} (R:VRun p g limit n st N):linksE p g=(linkS p g,0):=by
  unfold linksE; rw [R.run.mt,if_neg (fun h=>h rfl)]
theorem VRun.step {p:Plan} {g:Graph} {limit:Int} {n N:Nat} {st:Int} (R:VRun p g limit n st N) {k:Nat} (hk:k≤n) (round:Int):stepV p (linkS p g) (seqS p (graphT (namG p g)) k) round=stepS p (graphT (namG p g)) (seqS p (graphT (namG p g)) k) round:=by
  rw [seq_seg R.run.rp R.hN fun j hj=>R.run.en.lt j (by omega)]
  exact stepV_seg R.run.rp R.hN R.mat.can R.link
theorem cnt_fit {p:Plan} {g:Graph} {limit:Int} {n N:Nat} {st:Int} (R:VRun p g limit n st N) {k:Nat} (hk:k≤n):cntS p (graphT (namG p g)) (linkS p g) k≤8192*120:=by
  have h1:=cnt_le (p:=p) (T:=graphT (namG p g)) (l:=linkS p g) (n:=k)
  have h2:=R.llen
  have h3:=R.run.en.le
  have h4:=R.run.lm.2
  have h5:k*(linkS p g).length≤8192*120:=Nat.mul_le_mul (by omega) h2
  omega
theorem cnt_succ (p:Plan) (T:List Triple) (l:List Edge) (k:Nat):cntS p T l (k+1)=cntS p T l k+lettersL (ringPl p.Kind ((k:Int)+1)) (outVS p (seqS p T k) ((k:Int)+1)).Items l:=rfl
theorem count_ok {p:Plan} {l:List Edge} {s:State} {round:Int} {m:Nat} {told:List (Int×Int)} {Q:Nat×Int→Prop} (hs:Whole p s) (hl:l.length≤1000000) (hw:∀ e∈l,inI e.W) (hm:m≤1000000000) (ht:∀ k,mget k told=lkI (outVS p s round).Items k)
    (hQ:Q (0,((m+lettersL (ringPl p.Kind round) (outVS p s round).Items l:Nat):Int))) :
    vertex_letters_1_6d3 0 (m:Int) l told (ringPl p.Kind round) (fun (y488:Nat) (y489:Int) (x491:Int) (x492:Wide) (Qy:(Bool×Nat×Int)→Prop)=>eqP y488 0 (Qy (true,0,w64 (y489+1)))) Q:=by
  unfold vertex_letters_1_6d3
  have ho:=hs.out round
  refine range_intro (fun (s:Int) i=>(s,i,(0:Nat))) 0 l.length (by omega) (fun i o=>o=((m+lettersL (ringPl p.Kind round) (outVS p s round).Items (l.take i):Nat):Int)) (by omega) (by simp [lettersL]) (fun i o next _ hi hm' hn=>?_) (fun o next hm'=>?_)
  · subst hm'
    try dsimp only
    refine ifP_dec (fun _=>idxP_nat hi ?_) (fun h=>by omega)
    unfold lk2P
    rw [ht]
    have hlt:=letters_le (r:=ringPl p.Kind round) (x:=(outVS p s round).Items) (l:=l.take i)
    rw [List.length_take] at hlt
    have hs1:lettersL (ringPl p.Kind round) (outVS p s round).Items (l.take (i+1))=lettersL (ringPl p.Kind round) (outVS p s round).Items (l.take i)+(if (letS (ringPl p.Kind round) (outVS p s round).Items l[i]).isSome then 1 else 0):=by
      unfold lettersL
      rw [List.take_succ_eq_append_getElem hi,List.filterMap_append,List.length_append,List.filterMap_cons]
      cases letS (ringPl p.Kind round) (outVS p s round).Items l[i] with
      | none=>rfl
      | some w=>rfl
    cases hx:lkI (outVS p s round).Items l[i].From with
    | none=>
      refine ifP_neg rfl (hn _ ?_)
      rw [hs1,show letS (ringPl p.Kind round) (outVS p s round).Items l[i]=none by unfold letS; rw [hx]; rfl]
      simp
    | some y=>
      refine ifP_pos rfl (ring_Mul_ok (hw _ (List.getElem_mem hi)) (ho.2.1 _ (lkI_mem hx)) ⟨rfl,ifP_neg rfl (hn _ ?_)⟩)
      try dsimp only
      rw [hs1,show letS (ringPl p.Kind round) (outVS p s round).Items l[i]=some (mulW (ringPl p.Kind round) l[i].W y) by unfold letS; rw [hx]; rfl,w64_id (by omega) (by omega)]
      simp only [Option.isSome_some,if_true]
      omega
  · subst hm'
    try dsimp only
    rw [List.take_length]
    exact ifP_dec (fun h=>by omega) (fun _=>hQ)
theorem vertex_run_ok {p:Plan} {g:Graph} {limit:Int} {n N:Nat} {st:Int} {Q:Result×Int×Int→Prop} (R:VRun p g limit n st N) (hQ:Q (lastS p (graphT (namG p g)) n st,(cntS p (graphT (namG p g)) (linkS p g) n:Int),0)):vertex_run p g limit Q:=by
  unfold vertex_run
  refine model_Check_ok (ifP_neg (by simp [R.run.check]) (vertex_Links_ok ?_))
  rw [R.links]
  refine ifP_neg rfl (prog_Begin_ok ?_)
  try dsimp only
  have hp:=R.run.rp; have hl:=R.run.lm; have E:=R.run.en
  have hll:=R.llen
  show loopP _ ((0:Int),(seqS p (graphT (namG p g)) 0).Low,(seqS p (graphT (namG p g)) 0).High,(seqS p (graphT (namG p g)) 0).A,(seqS p (graphT (namG p g)) 0).B,(seqS p (graphT (namG p g)) 0).On,(0:Int))
  refine ends_loop (S:=Int×Int×Int×List Int×List Int×List Int×Int) hp hl E (enc:=fun k=>((k:Int),(seqS p (graphT (namG p g)) k).Low,(seqS p (graphT (namG p g)) k).High,(seqS p (graphT (namG p g)) k).A,(seqS p (graphT (namG p g)) k).B,(seqS p (graphT (namG p g)) k).On,(cntS p (graphT (namG p g)) (linkS p g) k:Int))) (fun k next hk hw hv hl' hst hn=>?_) (fun next hw hst=>?_)
  · have hkl:(k:Int)≤8192:=by have:=E.le; omega
    have ew2:w64 ((k:Int)+1)=(k:Int)+1:=w64_id (by omega) (by omega)
    have hcf:=cnt_fit R (k:=k) (by omega)
    try dsimp only
    refine prog_Live_ok hw.ok (ifP_neg (by simpa using hv) (ifP_neg (by simpa using hl') ?_))
    rw [ew2]
    refine vertex_Step_ok hp hw (by omega) (by omega) R.lw R.lin ?_
    rw [R.step (by omega),hst]
    refine ifP_neg rfl (vertex_letters_ok hw (by omega) fun told ht=>count_ok (l:=linkS p g) hw (by omega) R.lw (by omega) ht ⟨rfl,?_⟩)
    have hn':=hn
    have:((k+1:Nat):Int)=(k:Int)+1:=by omega
    simp only [this] at hn'
    rw [cnt_succ] at hn'
    exact hn'
  · have hkl:(n:Int)≤8192:=by have:=E.le; omega
    have ew2:w64 ((n:Int)+1)=(n:Int)+1:=w64_id (by omega) (by omega)
    try dsimp only
    refine prog_Live_ok hw.ok ?_
    rw [ew2]
    rcases stop_is E.ne hst with ⟨h1,rfl⟩ | ⟨h1,h2,rfl⟩ | ⟨h1,h2,h3,rfl⟩
    · exact ifP_pos (by simpa using h1) hQ
    · exact ifP_neg (by simpa using h1) (ifP_pos (by simpa using h2) hQ)
    · refine ifP_neg (by simpa using h1) (ifP_neg (by simpa using h2) (vertex_Step_ok hp hw (by omega) (by omega) R.lw R.lin ?_))
      rw [R.step (Nat.le_refl _)]
      exact ifP_pos (by simpa using h3) hQ
def PV:Plan:=⟨1,2,0,0,[]⟩
def GV2:Graph:=⟨2,[⟨0,1,7⟩]⟩
def TV:List Triple:=[⟨1,0,1⟩]
def SV0:State:=⟨0,2,[0,-1],[-1,-1],[1]⟩
def SV1:State:=⟨0,2,[0,1],[-1,0],[2]⟩
def SV2:State:=⟨0,2,[0,1],[-1,0],[0]⟩
theorem PV_right:rightPl PV=0:=by decide
theorem TV_is:graphT (namG PV GV2)=TV:=by decide
theorem PV_mat:matS PV GV2=(builtS 2 2 TV,0):=by decide
theorem TV_canon:Canon 2 2 TV:=⟨by decide,by decide,by decide,by decide,by decide,by unfold Srt; decide,by decide⟩
theorem TV_vals:∀ t∈TV,inI t.Val:=by unfold inI; decide
theorem LV_is:linkS PV GV2=[⟨0,1,1⟩]:=by decide
theorem beginV:StP PV SV0∧okSt SV0:=by
  have h:=begin_St (p:=PV) (low:=0) (high:=2) PV_right (by decide) (by decide) (by decide)
  rw [show beginS PV 0 2=SV0 by decide] at h
  exact h
theorem updV {s s':State} {round:Int} {y:Vec} (h:StP PV s∧okSt s) (hu:updS PV s round y=s'):StP PV s'∧okSt s':=by
  have:=upd_St (round:=round) (y:=y) h.1 h.2
  rw [hu] at this
  exact ⟨this.1,this.2.1⟩
theorem upV1:updS PV SV0 1 ⟨2,[⟨1,0⟩]⟩=SV1:=by
  unfold updS; rw [show sureSt PV SV0=SV0 from if_pos beginV.1]; decide
theorem stV1:StP PV SV1∧okSt SV1:=updV beginV upV1
theorem upV2:updS PV SV1 2 ⟨2,[]⟩=SV2:=by
  unfold updS; rw [show sureSt PV SV1=SV1 from if_pos stV1.1]; decide
theorem stV2:StP PV SV2∧okSt SV2:=updV stV1 upV2
theorem outV0:outVS PV SV0 1=⟨2,[⟨0,0⟩]⟩:=by unfold outVS; rw [show sureSt PV SV0=SV0 from if_pos beginV.1]; decide
theorem outV1:outVS PV SV1 2=⟨2,[⟨1,1⟩]⟩:=by unfold outVS; rw [show sureSt PV SV1=SV1 from if_pos stV1.1]; decide
theorem goV1:stepS PV TV SV0 1=(SV1,0):=step_of (x:=⟨2,[⟨0,0⟩]⟩) (l:=[⟨1,⟨0,0⟩⟩]) (y:=⟨2,[⟨1,0⟩]⟩) outV0 (by decide) (by decide) upV1
theorem goV2:stepS PV TV SV1 2=(SV2,0):=step_of (x:=⟨2,[⟨1,1⟩]⟩) (l:=[]) (y:=⟨2,[]⟩) outV1 (by decide) (by decide) upV2
theorem seqV0:seqS PV TV 0=SV0:=by show beginS PV 0 2=SV0; decide
theorem seqV1:seqS PV TV 1=SV1:=by show (stepS PV TV (seqS PV TV 0) 1).1=_; rw [seqV0,goV1]
theorem seqV2:seqS PV TV 2=SV2:=by show (stepS PV TV (seqS PV TV 1) 2).1=_; rw [seqV1,goV2]
theorem lvV0:liveS PV SV0 0=1:=by unfold liveS; rw [show sureSt PV SV0=SV0 from if_pos beginV.1]; decide
theorem lvV1:liveS PV SV1 1=1:=by unfold liveS; rw [show sureSt PV SV1=SV1 from if_pos stV1.1]; decide
theorem lvV2:liveS PV SV2 2=0:=by unfold liveS; rw [show sureSt PV SV2=SV2 from if_pos stV2.1]; decide
theorem runV:VRun PV GV2 9 2 1 2:=⟨by
    rw [TV_is]
    exact ⟨PV_right,TV_canon,TV_vals,PV_mat,by decide,by decide,fun k hk=>by
      rcases (show k=0∨k=1 by omega) with rfl | rfl
      · unfold stopS
        rw [seqV0,if_neg (by rw [show ((0:Nat):Int)=0 from rfl,lvV0]; decide),if_neg (by decide),if_neg (by rw [show ((0:Nat):Int)+1=1 from rfl,goV1]; simp)]
      · unfold stopS
        rw [seqV1,if_neg (by rw [show ((1:Nat):Int)=1 from rfl,lvV1]; decide),if_neg (by decide),if_neg (by rw [show ((1:Nat):Int)+1=2 from rfl,goV2]; simp)],by
      unfold stopS
      rw [seqV2,if_pos (by rw [show ((2:Nat):Int)=2 from rfl,lvV2])],by decide⟩,rfl,rfl,by decide,by decide⟩
theorem cntV:cntS PV (graphT (namG PV GV2)) (linkS PV GV2) 2=1:=by
  rw [TV_is,LV_is]
  show 0+lettersL (ringPl PV.Kind ((0:Nat)+1)) (outVS PV (seqS PV TV 0) ((0:Nat)+1)).Items [⟨0,1,1⟩]+lettersL (ringPl PV.Kind ((1:Nat)+1)) (outVS PV (seqS PV TV 1) ((1:Nat)+1)).Items [⟨0,1,1⟩]=1
  rw [seqV0,seqV1,show (((0:Nat):Int)+1)=1 from rfl,show (((1:Nat):Int)+1)=2 from rfl,outV0,outV1]
  decide
theorem live35_ok {Q:Bool→Prop} (hQ:Q true):law35_live Q:=by
  unfold law35_live
  have hwh:Whole PV SV0:=by have:=begin_whole PV_right; rwa [show beginS PV 0 PV.N=SV0 by decide] at this
  refine vertex_Links_ok (p:=PV) (g:=GV2) (ref_Begin_ok (p:=PV) ?_)
  rw [runV.links,show beginS PV 0 2=SV0 by decide,LV_is]
  refine vertex_Mail_ok (p:=PV) PV_right hwh (by omega) (by decide) (by unfold inI; decide) (fun ⟨e,he,h⟩=>absurd (show inE PV.N e by rw [List.mem_singleton.1 he]; unfold inE; decide) h) (fun _=>?_)
  unfold vertex_Run vertex_Letters
  refine vertex_run_ok (p:=PV) (g:=GV2) runV (vertex_run_ok (p:=PV) (g:=GV2) runV (vertex_Hear_ok (by decide) (by unfold okW; decide) (vertex_Hear_ok (by decide) (fun w h=>by cases h) ?_)))
  rw [cntV]
  have e1:mailN PV [⟨0,1,1⟩] SV0 1=[[],[⟨0,0⟩]]:=by
    unfold mailN; rw [outV0]; decide
  rw [e1]
  have e2:(lastS PV (graphT (namG PV GV2)) 2 1).State=SV2:=by rw [TV_is]; exact seqV2
  refine ifP_pos rfl (ifP_pos rfl (idxP_intro (x:=⟨0,1,1⟩) (by omega) rfl (ifP_pos rfl (ifP_pos rfl (ifP_pos rfl (idxP_intro (x:=[⟨0,0⟩]) (by omega) rfl (ifP_pos rfl (idxP_intro (x:=[]) (by omega) rfl (ifP_pos rfl (ifP_pos rfl (ifP_pos rfl (ifP_pos rfl ?_))))))))))))
  rw [e2]
  refine eqV_ok (by decide) (ifP_pos (by decide) (ifP_pos rfl (ifP_pos rfl ?_)))
  refine ifP_pos (by decide) (ifP_pos (by decide) ?_)
  exact hQ
theorem VertexHears_ok (a0:Int) (a1:Int) (a2:List Wide) (h2:(∀ x∈a2,okWide x)∧a2.length≤maxLen):law35_VertexHears a0 a1 a2 (fun r=>r=true):=by
  unfold law35_VertexHears
  refine ifP_dec (fun _=>live35_ok rfl) (fun h=>?_)
  have hw:∀ w∈a2,okW w:=fun w hx=>by
    have h1:=h2.1 w hx
    have h3:=bounds_i64 h1.1
    have h4:=bounds_u64 h1.2
    unfold okW
    omega
  exact vertex_Hear_ok (by omega) hw (ref35_Hear_ok (by omega) hw (live35_ok (ifP_pos rfl (ifP_pos (by simp) (ifP_pos (by simp) (by simp))))))
end Go.Proofs.YtaefnmlbnkmahaaGreat
