import Derived.Test.YtaefnmlbnkmahaaGreatOK
import Derived.Test.YtaefnmlbnkmahaaGreatModB
namespace Go.Proofs.YtaefnmlbnkmahaaGreat
open Go Go.Fw
set_option linter.unusedVariables false
set_option linter.unusedSimpArgs false
theorem MRun.whole {p:Plan} {g:Graph} {limit:Int} {T:List Triple} {n:Nat} {st:Int} (R:MRun p g limit T n st) {k:Nat} (h:k≤n):Whole p (seqS p T k):=seq_whole R.rp R.lm fun j hj=>R.en.lt j (by omega)
theorem step_of {p:Plan} {T:List Triple} {s s':State} {round:Int} {x y:Vec} {l:List Sum} (ho:outVS p s round=x) (hx:sumsR (ringPl p.Kind round) p.N p.N T x (askS p s).1 (askS p s).2=(l,0)) (hy:doneS (ringPl p.Kind round) p.N l=(y,0)) (hu:updS p s round y=s'):stepS p T s round=(s',0):=by
  have e1:stepX p T s round=(l,0):=by unfold stepX; rw [ho]; exact hx
  have e2:stepY p T s round=(y,0):=by unfold stepY; rw [e1,if_neg (by simp)]; exact hy
  unfold stepS
  rw [e2,if_neg (by simp),hu]
theorem Graph_ok {a:Graph} {Q:Graph→Prop} (hQ:∀ g:Graph,0≤g.N∧g.N≤23→g.Edges.length≤60→rightG g=0→Q g):law21_Graph a Q:=by
  unfold law21_Graph
  refine Within_ok (fun h=>by omega) (fun _ n h0 h1=>?_)
  have hend:∀ es:List Edge,es.length≤60→goodE n es→Q ⟨n,es⟩:=fun es he hg=>hQ _ ⟨h0,by simp only; omega⟩ he (good_right (by simp only; omega) (by simp only; omega) hg)
  refine range_intro (fun (s:List Edge) i=>(s,i)) 0 (min a.Edges.length 60) (by omega) (fun i s=>s.length≤i∧goodE n s) (by omega) (s0:=[]) ⟨by simp,by intro e he; simp at he⟩ (fun i s next _ hi hm hn=>?_) (fun s next hm=>?_)
  · dsimp only
    refine ifP_dec (fun _=>ifP_dec (fun _=>ifP_dec (fun hn0=>idxP_nat (by omega) ?_) (fun _=>hend s (by omega) hm.2)) (fun h=>by omega)) (fun h=>by omega)
    refine Within_ok (fun h=>by omega) fun _ u u0 u1=>Within_ok (fun h=>by omega) fun _ v v0 v1=>appP_intro (by simp; omega) (hn _ ⟨by simp; omega,fun e he=>?_⟩)
    rcases List.mem_append.1 he with h | h
    · exact hm.2 e h
    · rw [List.mem_singleton.1 h]
      have:=bnd_le (a.Edges[i]'(by omega)).W (m:=2147483647) (by omega)
      refine ⟨⟨⟨u0,u1⟩,v0,v1⟩,?_⟩
      unfold wOk
      simp only; omega
  · dsimp only
    exact ifP_dec (fun _=>ifP_dec (fun _=>by omega) (fun _=>hend s (by omega) hm.2)) (fun _=>hend s (by omega) hm.2)
theorem case_ok {a:Law22_Case} {Q:Plan×Graph×Int→Prop} (h:okLaw22_Case a) (hQ:∀ p g lim,rightPl p=0→g.N=p.N→0≤g.N∧g.N≤23→g.Edges.length≤60→rightG g=0→0≤lim∧lim≤39→Q (p,g,lim)):law22_Case_Make a Q:=by
  unfold law22_Case_Make
  have hb:=bounds_u8 h.2.2
  refine Graph_ok fun g hg hl hr=>plan_ok (by omega) fun p hp hN=>?_
  have e:(w64 a.Limit).tmod 40=a.Limit % 40:=by rw [w64_id (by omega) (by omega),Int.tmod_eq_emod_of_nonneg (by omega)]
  rw [e]
  exact hQ p g _ hp hN.symm hg hl hr (by omega)
theorem case_T {p:Plan} {g:Graph} {lim:Int} (hp:rightPl p=0) (hn:g.N=p.N) (hl:g.Edges.length≤60) (hg:rightG g=0) (hlim:0≤lim∧lim≤8192):∃ n st,MRun p g lim (graphT (namG p g)) n st:=by
  obtain ⟨N,hN⟩:∃ N:Nat,p.N=N:=⟨p.N.toNat,by have:=(rightPl_zero hp).2.1; omega⟩
  have hP:=mat_P (n:=N) hp hn hN hg (by omega)
  obtain ⟨n,st,E⟩:=ends_ex p (graphT (namG p g)) hlim.1
  exact ⟨n,st,hp,by rw [hN]; exact hP.can,hP.ini,(mat_is hp hn hg (by omega)).1,hlim,E⟩
def ltE (a b:Edge):Prop:=ltK (a.From,a.To) (b.From,b.To)
theorem canon_srt {es:List Edge} (h:∀ e∈es,inI e.W):(canonS es).Pairwise ltE:=by
  unfold canonS
  rw [fin_one (fun t ht=>by obtain ⟨e,he,rfl⟩:=List.mem_map.1 ht; exact h e he)]
  simp only
  rw [List.pairwise_map]
  exact (SC_srt 1 (es.map kvE)).imp fun {a b} hab=>hab
theorem canon_self {es:List Edge} (h:∀ e∈es,inI e.W) (hs:es.Pairwise ltE):canonS es=es:=by
  have e1:es.map kvE=(es.map e2t).map kvT:=by rw [List.map_map]; rfl
  have hs':Srt (es.map e2t):=by
    unfold Srt
    rw [List.pairwise_map]
    exact hs.imp fun {a b} hab=>hab
  unfold canonS
  rw [fin_one (fun t ht=>by obtain ⟨e,he,rfl⟩:=List.mem_map.1 ht; exact h e he)]
  simp only
  rw [e1,SC_self hs',List.map_map,List.map_map]
  conv=>rhs; rw [←List.map_id es]
  refine List.map_congr_left fun e he=>?_
  simp only [Function.comp_apply,e2t,key,id_eq]
  rw [nar_ofI (h e he)]
  rfl
theorem graph_mem {g:Graph} (h:∀ e∈g.Edges,inI e.W) {t:Triple}:t∈graphT g↔(⟨t.Col,t.Row,t.Val⟩:Edge)∈canonS g.Edges:=by
  have hv1:∀ t∈g.Edges.map kvE,inI t.2:=fun t ht=>by obtain ⟨e,he,rfl⟩:=List.mem_map.1 ht; exact h e he
  have hv2:∀ t∈g.Edges.map kvF,inI t.2:=fun t ht=>by obtain ⟨e,he,rfl⟩:=List.mem_map.1 ht; exact h e he
  unfold graphT canonS
  rw [fin_one hv1,fin_one hv2]
  simp only
  rw [List.mem_map,List.mem_map]
  constructor
  · rintro ⟨p,hp,rfl⟩
    obtain ⟨q,hq,rfl⟩:=List.mem_map.1 ((sw_perm g.Edges).mem_iff.2 hp)
    exact ⟨q,hq,rfl⟩
  · rintro ⟨q,hq,he⟩
    refine ⟨sw q,(sw_perm g.Edges).mem_iff.1 (List.mem_map_of_mem hq),?_⟩
    obtain ⟨tr,tc,tv⟩:=t
    unfold mkE at he
    simp only [Edge.mk.injEq] at he
    obtain ⟨h1,h2,h3⟩:=he
    unfold mkT sw
    simp only [Triple.mk.injEq]
    exact ⟨h2,h1,h3⟩
def linkS (p:Plan) (g:Graph):List Edge:=if p.Kind=5∨p.Kind=3∨p.Kind=1 then (namG p g).Edges else canonS g.Edges
structure LinkP (n:Nat) (l:List Edge) (T:List Triple):Prop where
  good:goodE n l
  srt:l.Pairwise ltE
  mem:∀ t:Triple,t∈T↔(⟨t.Col,t.Row,t.Val⟩:Edge)∈l
theorem nam_edges {p:Plan} {g:Graph}:(p.Kind=5∨p.Kind=3∨p.Kind=1)→goodE g.N g.Edges→∃ es,goodE g.N es∧(namG p g).Edges=canonS es:=by
  intro hk h
  unfold namG
  by_cases h5:p.Kind=5
  · rw [if_pos h5]; exact ⟨_,goodE_one (both_good (simp_good h).1).1,rfl⟩
  · rw [if_neg h5]
    by_cases h3:p.Kind=3
    · rw [if_pos h3]; exact ⟨_,goodE_one (both_good h).1,rfl⟩
    · rw [if_neg h3,if_pos (by omega)]; exact ⟨_,goodE_one h,rfl⟩
theorem link_P {p:Plan} {g:Graph} {n:Nat} (hn:g.N=n) (hg:goodE g.N g.Edges):LinkP n (linkS p g) (graphT (namG p g)):=by
  have hgd:=nam_good (p:=p) hg
  by_cases hk:p.Kind=5∨p.Kind=3∨p.Kind=1
  · obtain ⟨es,h1,h2⟩:=nam_edges hk hg
    have hl:linkS p g=canonS es:=by unfold linkS; rw [if_pos hk,h2]
    have hs:=canon_srt (goodE_in h1)
    rw [hl]
    refine ⟨hn▸goodE_canon h1,hs,fun t=>?_⟩
    rw [graph_mem (goodE_in hgd.2.1),h2,canon_self (goodE_in (goodE_canon h1)) hs]
  · have hl:linkS p g=canonS g.Edges:=if_neg hk
    have hnm:namG p g=g:=by unfold namG; rw [if_neg (by omega),if_neg (by omega),if_neg (by omega)]
    rw [hl,hnm]
    exact ⟨hn▸goodE_canon hg,canon_srt (goodE_in hg),fun t=>graph_mem (goodE_in hg)⟩
def letS (r:Int) (x:List Item) (e:Edge):Option Wide:=(lkI x e.From).map (mulW r e.W)
def mailS (r:Int) (x:List Item) (l:List Edge) (v:Int):List Wide:=(l.filter fun e=>decide (e.To=v)).filterMap (letS r x)
def sumW (r:Int) (l:List Wide):Option Wide:=l.foldl (fun acc w=>cmb r acc (some w)) none
theorem row_links {n:Nat} {l:List Edge} {T:List Triple} (hT:Canon n n T) (h:LinkP n l T) {v:Nat}:rowI T v=(l.filter fun e=>decide (e.To=(v:Int))).map fun e=>(⟨e.From,e.W⟩:Item):=by
  have h1:IncI (rowI T (v:Int)):=by
    unfold IncI rowI segS
    rw [List.pairwise_map]
    refine List.Pairwise.imp_of_mem ?_ (List.Pairwise.filter _ hT.srt)
    intro a b ha hb hab
    have h1:=of_decide_eq_true (List.mem_filter.1 ha).2
    have h2:=of_decide_eq_true (List.mem_filter.1 hb).2
    unfold ltK key at hab
    simp only [itS]
    simp only at hab
    omega
  have h2:IncI ((l.filter fun e=>decide (e.To=(v:Int))).map fun e=>(⟨e.From,e.W⟩:Item)):=by
    unfold IncI
    rw [List.pairwise_map]
    refine List.Pairwise.imp_of_mem ?_ (List.Pairwise.filter _ h.srt)
    intro a b ha hb hab
    have h1:=of_decide_eq_true (List.mem_filter.1 ha).2
    have h2:=of_decide_eq_true (List.mem_filter.1 hb).2
    unfold ltE ltK at hab
    simp only at hab ⊢
    omega
  refine inc_ext h1 h2 fun i=>opt_ext fun a=>?_
  rw [rowT_look hT (by omega),lkI_iff h2,h.mem,List.mem_map]
  constructor
  · intro he
    exact ⟨_,List.mem_filter.2 ⟨he,by simp⟩,rfl⟩
  · rintro ⟨e,he,hx⟩
    obtain ⟨h3,h4⟩:=List.mem_filter.1 he
    have h5:=of_decide_eq_true h4
    obtain ⟨ef,et,ew⟩:=e
    simp only [Item.mk.injEq] at hx h5
    obtain ⟨rfl,rfl⟩:=hx
    subst h5
    exact h3
theorem fold_letters (r:Int) (x:List Item):∀ (l:List Edge) (acc:Option Wide),(l.map fun e=>(⟨e.From,e.W⟩:Item)).foldl (stepI r (lkI x)) acc=(l.filterMap (letS r x)).foldl (fun acc w=>cmb r acc (some w)) acc
  | [],_=>rfl
  | e :: l,acc=>by
    rw [List.map_cons,List.foldl_cons,fold_letters r x l,List.filterMap_cons]
    unfold letS stepI
    simp only
    cases lkI x e.From with
    | none=>rfl
    | some y=>rfl
theorem row_mail {p:Plan} {n:Nat} {l:List Edge} {T:List Triple} {round:Int} {G:GV} (hT:Canon n n T) (h:LinkP n l T) (v:Nat) :
    rowG p T n round G v=sumW (ringPl p.Kind round) (mailS (ringPl p.Kind round) (outI n fun i=>tellG p round i (G i)) l v):=by
  have hrl:=row_links hT h (v:=v)
  unfold rowG
  rw [←row_fold (n:=n) (l:=rowI T v) (by
    rw [hrl]
    unfold IncI
    rw [List.pairwise_map]
    refine List.Pairwise.imp_of_mem ?_ (List.Pairwise.filter _ h.srt)
    intro a b ha hb hab
    have h1:=of_decide_eq_true (List.mem_filter.1 ha).2
    have h2:=of_decide_eq_true (List.mem_filter.1 hb).2
    unfold ltE ltK at hab
    simp only at hab ⊢
    omega) (fun x hx=>by
      rw [hrl] at hx
      obtain ⟨e,he,rfl⟩:=List.mem_map.1 hx
      exact (h.good e (List.mem_filter.1 he).1).1.1),hrl,fold_letters]
  rfl
theorem sum_okO {r:Int}:∀ {l:List Wide} {acc:Option Wide},(∀ w∈l,okW w)→okO acc→okO (l.foldl (fun acc w=>cmb r acc (some w)) acc)
  | [],_,_,h=>h
  | w :: l,acc,hl,h=>by
    rw [List.foldl_cons]
    refine sum_okO (l:=l) (fun x hx=>hl x (List.mem_cons_of_mem _ hx)) ?_
    have hw:=hl w List.mem_cons_self
    intro x hx
    cases acc with
    | none=>cases hx; exact hw
    | some a=>cases hx; exact addW_okW (h a rfl) hw
theorem mail_okW {r:Int} {x:List Item} {l:List Edge} {v:Int}:∀ w∈mailS r x l v,okW w:=fun w hw=>by
  obtain ⟨e,_,he⟩:=List.mem_filterMap.1 hw
  unfold letS at he
  cases hx:lkI x e.From with
  | none=>rw [hx] at he; cases he
  | some y=>rw [hx] at he; cases he; exact mulW_okW _ _ _
def hearO (r:Int):Option Wide→Int×Bool×Int
  | none=>(0,false,0)
  | some w=>if (narS w).2=false then (0,false,12) else if (narS w).1=zS r then (0,false,0) else ((narS w).1,true,0)
theorem hearO_some (r:Int) (w:Wide):hearO r (some w)=if (narS w).2=false then (0,false,12) else if (narS w).1=zS r then (0,false,0) else ((narS w).1,true,0):=rfl
def hearS (r:Int) (l:List Wide):Int×Bool×Int:=hearO r (sumW r l)
def hearV (p:Plan) (l:List Edge) (s:State) (round:Int) (v:Nat):Int×Bool×Int:=
  if askF (askS p s).1 (askS p s).2 v=true then hearS (ringPl p.Kind round) (mailS (ringPl p.Kind round) (outVS p s round).Items l v) else (0,false,0)
def badV (p:Plan) (l:List Edge) (s:State) (round:Int):Bool:=(List.range p.N.toNat).any fun v=>(hearV p l s round v).2.2 != 0
def itemsV (p:Plan) (l:List Edge) (s:State) (round:Int) (n:Nat):List Item:=outI n fun v=>((hearV p l s round v).1,(hearV p l s round v).2.1)
def stepV (p:Plan) (l:List Edge) (s:State) (round:Int):State×Int:=
  if badV p l s round=true then (zSt,12) else (updS p s round ⟨p.N,itemsV p l s round p.N.toNat⟩,0)
theorem badV_iff {p:Plan} {l:List Edge} {s:State} {round:Int}:badV p l s round=true↔∃ v,v<p.N.toNat∧(hearV p l s round v).2.2≠0:=by
  unfold badV
  rw [List.any_eq_true]
  constructor
  · rintro ⟨v,hv,h⟩; exact ⟨v,List.mem_range.1 hv,by simpa using h⟩
  · rintro ⟨v,hv,h⟩; exact ⟨v,List.mem_range.2 hv,by simpa using h⟩
theorem hear_err {r:Int} {l:List Wide}:(hearS r l).2.2=0∨hearS r l=(0,false,12):=by
  unfold hearS
  cases sumW r l with
  | none=>exact .inl rfl
  | some w=>
    rw [hearO_some]
    by_cases h1:(narS w).2=false
    · rw [if_pos h1]; exact .inr rfl
    · rw [if_neg h1]
      left
      split <;> rfl
theorem stepV_seg {p:Plan} {n:Nat} {l:List Edge} {T:List Triple} {round:Int} {G:GV} (hp:rightPl p=0) (hn:p.N=n) (hT:Canon n n T) (h:LinkP n l T):stepV p l (segV 0 n G) round=stepS p T (segV 0 n G) round:=by
  have hn4:n≤4096:=by have:=(rightPl_zero hp).2.1; omega
  have ht:p.N.toNat=n:=by omega
  have hout:(outVS p (segV 0 n G) round).Items=outI n fun i=>tellG p round i (G i):=by
    rw [out_seg hp (by omega)]
    exact outI_congr fun i _=>by rw [Nat.zero_add]
  have hhv:∀ v,v<n→hearV p l (segV 0 n G) round v=if askG p (G v)=true then hearO (ringPl p.Kind round) (rowG p T n round G v) else (0,false,0):=fun v hv=>by
    unfold hearV hearS
    rw [ask_seg hn4 hv,hout,←row_mail (round:=round) (G:=G) hT h v]
  have hs:=step_seg (T:=T) (G:=G) (round:=round) hp hn
  unfold stepV
  by_cases hb:badV p l (segV 0 n G) round=true
  · rw [if_pos hb]
    obtain ⟨v,hv,h1⟩:=badV_iff.1 hb
    rw [ht] at hv
    rw [hhv v hv] at h1
    refine (hs.1 ?_).symm
    by_cases ha:askG p (G v)=true
    · rw [if_pos ha] at h1
      cases hr:rowG p T n round G v with
      | none=>rw [hr] at h1; exact absurd rfl h1
      | some w=>
        rw [hr] at h1
        rw [hearO_some] at h1
        by_cases hw:(narS w).2=false
        · exact ⟨v,w,hv,ha,hr,hw⟩
        · rw [if_neg hw] at h1
          split at h1 <;> exact absurd rfl h1
    · rw [if_neg ha] at h1; exact absurd rfl h1
  · rw [if_neg hb]
    have hall:∀ v w,v<n→askG p (G v)=true→rowG p T n round G v=some w→(narS w).2=true:=fun v w hv ha hw=>by
      cases hx:(narS w).2 with
      | true=>rfl
      | false=>
        refine absurd (badV_iff.2 ⟨v,by omega,?_⟩) hb
        rw [hhv v hv,if_pos ha,hw]
        rw [hearO_some,if_pos hx]; decide
    rw [hs.2 hall,ht]
    rw [upd_seg (Y:=hearG p T n round G) hp (by omega) (y:=⟨p.N,itemsV p l (segV 0 n G) round n⟩) (by rw [hn]; exact out_vecP hn4 _) hn]
    intro i hi
    show lkI (outI n _) (i:Int)=_
    rw [outI_lk,Nat.zero_add,hhv i hi]
    unfold hearG
    by_cases ha:askG p (G i)=true
    · rw [if_pos ha,if_pos ha]
      cases hr:rowG p T n round G i with
      | none=>simp [hearO]
      | some w=>
        have hx:=hall i w hi ha hr
        simp only [Option.bind_some]
        have e:hearO (ringPl p.Kind round) (some w)=if (narS w).1=zS (ringPl p.Kind round) then (0,false,0) else ((narS w).1,true,0):=by
          rw [hearO_some,if_neg (by rw [hx]; simp)]
        rw [e]
        unfold nzW
        by_cases hz:(narS w).1=zS (ringPl p.Kind round)
        · rw [if_pos hz,if_neg (fun h=>by cases h.2),if_neg (fun h=>h hz)]
        · rw [if_neg hz,if_pos ⟨hi,rfl⟩,if_pos hz]
    · rw [if_neg ha,if_neg ha,if_neg (fun h=>by cases h.2)]
def totN:Nat→(Nat→Nat)→Nat
  | 0,_=>0
  | n+1,f=>totN n f+f n
theorem totN_le {f:Nat→Nat} {c:Nat}:∀ {n:Nat},(∀ i,i<n→f i≤c)→totN n f≤n*c
  | 0,_=>by simp [totN]
  | n+1,h=>by
    unfold totN
    have:=totN_le (n:=n) fun i hi=>h i (by omega)
    have:=h n (by omega)
    rw [Nat.add_mul]; omega
def lettersL (r:Int) (x:List Item) (l:List Edge):Nat:=(l.filterMap (letS r x)).length
theorem letters_le {r:Int} {x:List Item} {l:List Edge}:lettersL r x l≤l.length:=List.length_filterMap_le _ _
def cntS (p:Plan) (T:List Triple) (l:List Edge) (n:Nat):Nat:=totN n fun k=>lettersL (ringPl p.Kind ((k:Int)+1)) (outVS p (seqS p T k) ((k:Int)+1)).Items l
theorem cnt_le {p:Plan} {T:List Triple} {l:List Edge} {n:Nat}:cntS p T l n≤n*l.length:=totN_le fun _ _=>letters_le
end Go.Proofs.YtaefnmlbnkmahaaGreat
