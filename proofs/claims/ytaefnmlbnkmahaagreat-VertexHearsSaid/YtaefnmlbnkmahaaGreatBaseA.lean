import Derived.Test.YtaefnmlbnkmahaaGreatCsrH
namespace Go.Proofs.YtaefnmlbnkmahaaGreat
open Go Go.Fw
set_option linter.unusedVariables false
set_option linter.unusedSimpArgs false
theorem fin_canon {r rows cols:Int} {kvs:List (Key×Int)} (h:0≤rows∧rows≤4096∧0≤cols∧cols≤4096) (hl:kvs.length≤65536) (hk:∀ t∈kvs,inT rows cols (mkT t.1 0)) (hv:∀ t∈kvs,inI t.2):Canon rows cols (finS (SC r kvs) mkT).1:=by
  refine ⟨h.1,h.2.1,h.2.2.1,h.2.2.2,?_,?_,?_⟩
  · exact Nat.le_trans (fin_len _) (by have:=(SC_prop r kvs hv).1; omega)
  · unfold finS
    split
    · unfold Srt
      rw [List.pairwise_map]
      exact SC_srt r kvs
    · exact .nil
  · intro t ht
    unfold finS at ht
    split at ht
    · obtain ⟨p,hp,rfl⟩:=List.mem_map.1 ht
      obtain ⟨x,hx,e⟩:=SC_keys hp
      have:=hk x hx
      unfold inT mkT at *
      rw [←e]
      exact this
    · simp at ht
def inE (n:Int) (e:Edge):Prop:=(0≤e.From∧e.From<n)∧(0≤e.To∧e.To<n)
instance (n:Int) (e:Edge):Decidable (inE n e):=by unfold inE; infer_instance
def wOk (e:Edge):Prop:=0≤e.W∧e.W≤2147483647
instance (e:Edge):Decidable (wOk e):=by unfold wOk; infer_instance
def rightG (g:Graph):Int:=
  if g.N<0 then 3 else if 4096<g.N∨65536<g.Edges.length then 5 else if ¬ ∀ e∈g.Edges,inE g.N e then 3 else if ¬ ∀ e∈g.Edges,wOk e then 7 else 0
theorem rightG_zero {g:Graph} (h:rightG g=0):0≤g.N∧g.N≤4096∧g.Edges.length≤65536∧(∀ e∈g.Edges,inE g.N e)∧∀ e∈g.Edges,wOk e:=by
  unfold rightG at h
  split at h
  · omega
  · split at h
    · omega
    · split at h
      · omega
      · split at h
        · omega
        · rename_i h1 h2 h3 h4
          exact ⟨by omega,by omega,by omega,Decidable.of_not_not h3,Decidable.of_not_not h4⟩
theorem graph_right_ok {g:Graph} {Q:Int→Prop} (hQ:Q (rightG g)):edges_Right g Q:=by
  unfold edges_Right
  unfold rightG at hQ
  refine ifP_dec (fun h=>?_) (fun h=>?_)
  · rwa [if_pos h] at hQ
  rw [if_neg h] at hQ
  refine join_intro (fun b=>b=decide (4096<g.N∨65536<g.Edges.length)) ?_ fun k hk=>?_
  · rintro _ rfl
    refine ifP_dec (fun h5=>?_) (fun h5=>?_)
    · rwa [if_pos h5] at hQ
    rw [if_neg h5] at hQ
    unfold slices_ContainsFunc_api_Edge_api_Edge_87a slices_IndexFunc_api_Edge_api_Edge_a86 edges_Right_2_f7d edges_Right_1_b08
    refine scan_intro g.Edges.length (by omega) (fun i=>∀ (j:Nat) (hj:j<g.Edges.length),j<i→inE g.N g.Edges[j]) (by simp) (fun i next hi hR hn=>?_) (fun next hR=>?_)
    · refine ifP_dec (fun _=>?_) (fun h=>by omega)
      have hbad (hb:¬inE g.N g.Edges[i]):ifP (decide (0≤(i:Int))) (Q 3) (slices_ContainsFunc_api_Edge_api_Edge_126 g.Edges fun r45=>ifP r45 (Q 7) (Q 0)):=by
        refine ifP_dec (fun _=>?_) (fun h=>by omega)
        rwa [if_pos (fun h'=>hb (h' _ (List.getElem_mem hi)))] at hQ
      refine idxP_nat hi ?_
      refine ifP_dec (fun h1=>ifP_pos rfl (ifP_pos rfl (hbad fun hh=>by unfold inE at hh; omega))) (fun h1=>?_)
      refine ifP_dec (fun h2=>ifP_pos rfl (hbad fun hh=>by unfold inE at hh; omega)) (fun h2=>?_)
      refine ifP_dec (fun h3=>ifP_pos rfl (hbad fun hh=>by unfold inE at hh; omega)) (fun h3=>?_)
      refine ifP_dec (fun h4=>hbad fun hh=>by unfold inE at hh; omega) (fun h4=>hn fun j hj hji=>?_)
      by_cases e:j=i
      · subst e; unfold inE; omega
      · exact hR j hj (by omega)
    · refine ifP_dec (fun h=>by omega) (fun _=>ifP_neg (by decide) ?_)
      have hall:∀ e∈g.Edges,inE g.N e:=fun e he=>by
        obtain ⟨j,hj,rfl⟩:=List.getElem_of_mem he
        exact hR j hj hj
      rw [if_neg (fun h=>h hall)] at hQ
      unfold slices_ContainsFunc_api_Edge_api_Edge_126 slices_IndexFunc_api_Edge_api_Edge_122 edges_Right_3_b50
      refine scan_intro g.Edges.length (by omega) (fun i=>∀ (j:Nat) (hj:j<g.Edges.length),j<i→wOk g.Edges[j]) (by simp) (fun i next hi hR hn=>?_) (fun next hR=>?_)
      · refine ifP_dec (fun _=>?_) (fun h=>by omega)
        have hbad (hb:¬wOk g.Edges[i]):ifP (decide (0≤(i:Int))) (Q 7) (Q 0):=by
          refine ifP_dec (fun _=>?_) (fun h=>by omega)
          rwa [if_pos (fun h'=>hb (h' _ (List.getElem_mem hi)))] at hQ
        refine idxP_nat hi (ifP_dec (fun h1=>ifP_pos rfl (hbad fun hh=>by unfold wOk at hh; omega)) (fun h1=>ifP_dec (fun h2=>hbad fun hh=>by unfold wOk at hh; omega) (fun h2=>hn fun j hj hji=>?_)))
        by_cases e:j=i
        · subst e; unfold wOk; omega
        · exact hR j hj (by omega)
      · refine ifP_dec (fun h=>by omega) (fun _=>ifP_neg (by decide) ?_)
        rwa [if_neg (fun h=>h fun e he=>by
          obtain ⟨j,hj,rfl⟩:=List.getElem_of_mem he
          exact hR j hj hj)] at hQ
  · refine ifP_dec (fun h1=>hk _ ?_) (fun h1=>hk _ ?_)
    · rw [decide_eq_true h1,decide_eq_true (.inl h1)]
    · apply decide_eq_decide.2; omega
def kvF (e:Edge):Key×Int:=((e.To,e.From),e.W)
def flipE (e:Edge):Edge:=⟨e.To,e.From,e.W⟩
def graphT (g:Graph):List Triple:=(finS (SC 1 (g.Edges.map kvF)) mkT).1
theorem graph_canon {g:Graph} (h:rightG g=0):Canon g.N g.N (graphT g):=by
  obtain ⟨h1,h2,h3,h4,h5⟩:=rightG_zero h
  refine fin_canon ⟨h1,h2,h1,h2⟩ (by simpa using h3) (fun t ht=>?_) (fun t ht=>?_)
  · obtain ⟨e,he,rfl⟩:=List.mem_map.1 ht
    have:=h4 e he
    unfold inE at this
    unfold inT mkT kvF
    simp only
    omega
  · obtain ⟨e,he,rfl⟩:=List.mem_map.1 ht
    have:=h5 e he
    unfold wOk at this
    unfold inI kvF
    simp only
    omega
def graphS (g:Graph):Rows×Int:=if rightG g=0 then (builtS g.N g.N (graphT g),0) else (zR,rightG g)
theorem graph_ok {g:Graph} {Q:Rows×Int→Prop} (hQ:Q (graphS g)):csr_Graph g Q:=by
  unfold csr_Graph
  unfold graphS at hQ
  refine graph_right_ok (ifP_ne (fun h=>?_) (fun h=>?_))
  · rwa [if_neg h] at hQ
  rw [if_pos h] at hQ
  have hcan:=graph_canon h
  obtain ⟨h1,h2,h3,h4,h5⟩:=rightG_zero h
  have hv:∀ t∈g.Edges.map flipE,inI t.W:=fun t ht=>by
    obtain ⟨e,he,rfl⟩:=List.mem_map.1 ht
    have:=h5 e he
    unfold wOk at this
    unfold inI flipE
    simp only
    omega
  unfold edges_Turn edges_made_7c5 edges_turned_87e
  refine range_intro (fun (s:List Edge) i=>(s,i)) 0 g.Edges.length (by omega) (fun i s=>s=(g.Edges.take i).map flipE) (by omega) rfl (fun i s next _ hi hm hn=>?_) (fun s next hm=>?_)
  · subst hm
    dsimp only
    refine ifP_dec (fun _=>?_) (fun h=>by omega)
    refine idxP_nat hi (ifP_pos rfl (appP_intro ?_ (hn _ ?_)))
    · simp; omega
    · rw [take_map hi]; rfl
  · subst hm
    dsimp only
    refine ifP_dec (fun h=>by omega) (fun _=>?_)
    rw [List.take_length]
    unfold edges_Canon
    refine combine_ok (by omega) (by simp; omega) hv ?_
    dsimp only
    have hkv:(g.Edges.map flipE).map kvE=g.Edges.map kvF:=by rw [List.map_map]; rfl
    rw [hkv]
    have hf1:=(finT (SC 1 (g.Edges.map kvF))).1
    have hgl:=hcan.len
    have hgi:=hcan.inn
    unfold graphT at hQ hgl hgi
    rw [hf1] at hQ hgl hgi
    generalize (finS (SC 1 (g.Edges.map kvF)) mkE).1=es at hQ hgl hgi
    have hel:es.length≤65536:=by simpa using hgl
    refine range_intro (fun (s:List Triple) i=>(s,i)) 0 es.length (by omega) (fun i s=>s=(es.take i).map e2t) (by omega) rfl (fun i s next _ hi hm hn=>?_) (fun s next hm=>?_)
    · subst hm
      dsimp only
      refine ifP_dec (fun _=>?_) (fun h=>by omega)
      refine idxP_nat hi (appP_intro ?_ (hn _ ?_))
      · simp; omega
      · rw [take_map hi]; rfl
    · subst hm
      dsimp only
      refine ifP_dec (fun h=>by omega) (fun _=>?_)
      rw [List.take_length]
      refine built_ok h1 (by omega) (by simp; omega) (fun t ht=>?_) hQ
      have:=hgi t ht
      unfold inT at this
      exact ⟨this.1,this.2.1⟩
def endK (r:Int) (k:Key) (ts:List (Key×Int)):Option Wide:=ts.foldl (fun o t=>if k=t.1 then some (match o with | some w=>addW r w (ofI t.2) | none=>ofI t.2) else o) none
theorem SC_get (r:Int) (k:Key) (ts:List (Key×Int)):mget k (SC r ts)=endK r k ts:=by
  suffices ∀ (ts:List (Key×Int)) (l:List (Key×Wide)),srt l→mget k (ts.foldl (fun l t=>ins r t.1 (ofI t.2) l) l)=ts.foldl (fun o t=>if k=t.1 then some (match o with | some w=>addW r w (ofI t.2) | none=>ofI t.2) else o) (mget k l) from this ts [] .nil
  intro ts
  induction ts with
  | nil=>intro l _; rfl
  | cons t ts ih=>
    intro l h
    simp only [List.foldl_cons]
    rw [ih _ (ins_srt h),ins_get k h]
    congr 1
    by_cases e:k=t.1
    · subst e; rfl
    · rw [if_neg e,if_neg e]
def sw (p:Key×Wide):Key×Wide:=((p.1.2,p.1.1),p.2)
theorem sw_get (k:Key):∀ l:List (Key×Wide),mget k (l.map sw)=mget (k.2,k.1) l
  | []=>rfl
  | p :: l=>by
    obtain ⟨⟨a,b⟩,w⟩:=p
    obtain ⟨c,d⟩:=k
    simp only [List.map_cons,mget,sw,sw_get (c,d) l,Prod.mk.injEq]
    by_cases e:c=b∧d=a
    · rw [if_pos e,if_pos ⟨e.2,e.1⟩]
    · rw [if_neg e,if_neg fun h=>e ⟨h.2,h.1⟩]
theorem sw_keys {l:List (Key×Wide)} (h:keysOk l):keysOk (l.map sw):=by
  unfold keysOk at *
  rw [List.nodup_iff_pairwise_ne,List.pairwise_map] at h
  rw [List.nodup_iff_pairwise_ne,List.pairwise_map,List.pairwise_map]
  refine List.Pairwise.imp (fun {a b} hab e=>hab ?_) h
  obtain ⟨⟨a1,a2⟩,w⟩:=a
  obtain ⟨⟨b1,b2⟩,v⟩:=b
  simp only [sw,Prod.mk.injEq] at *
  exact ⟨e.2,e.1⟩
theorem sw_perm (es:List Edge):((SC 1 (es.map kvE)).map sw).Perm (SC 1 (es.map kvF)):=by
  refine maps_perm (sw_keys (srt_keys (SC_srt _ _))) (srt_keys (SC_srt _ _)) fun k=>?_
  rw [sw_get,SC_get,SC_get]
  unfold endK
  rw [List.foldl_map,List.foldl_map]
  congr 1
  funext o e
  obtain ⟨c,d⟩:=k
  simp only [kvE,kvF,Prod.mk.injEq]
  by_cases h:d=e.From∧c=e.To
  · rw [if_pos h,if_pos ⟨h.2,h.1⟩]
  · rw [if_neg h,if_neg fun h'=>h ⟨h'.2,h'.1⟩]
theorem nar_ofI {v:Int} (h:inI v):narS (ofI v)=(v,true):=by
  unfold narS ofI
  unfold inI at h
  simp only
  rw [if_pos]
  · rw [w64_eq]; congr 1; omega
  · split <;> omega
theorem SC_one (ts:List (Key×Int)) (hv:∀ t∈ts,inI t.2):∀ p∈SC 1 ts,∃ v,inI v∧p.2=ofI v:=by
  suffices ∀ (ts:List (Key×Int)) (l:List (Key×Wide)),(∀ t∈ts,inI t.2)→(∀ p∈l,∃ v,inI v∧p.2=ofI v)→∀ p∈ts.foldl (fun l t=>ins 1 t.1 (ofI t.2) l) l,∃ v,inI v∧p.2=ofI v from this ts [] hv (by simp)
  have hins:∀ (k:Key) (v:Int),inI v→∀ l:List (Key×Wide),(∀ p∈l,∃ v,inI v∧p.2=ofI v)→∀ p∈ins 1 k (ofI v) l,∃ v,inI v∧p.2=ofI v:=by
    intro k v hv l
    induction l with
    | nil=>intro _ p hp; simp [ins] at hp; exact ⟨v,hv,by rw [hp]⟩
    | cons q l ih=>
      intro h p hp
      unfold ins at hp
      split at hp
      · rcases List.mem_cons.1 hp with rfl | hp
        · exact h _ (by simp)
        · exact ih (fun x hx=>h x (by simp [hx])) p hp
      · split at hp
        · rcases List.mem_cons.1 hp with rfl | hp
          · obtain ⟨u,hu,e⟩:=h q (by simp)
            unfold addW
            simp only [true_or,if_true]
            split
            · exact ⟨u,hu,e⟩
            · exact ⟨v,hv,rfl⟩
          · exact h p (by simp [hp])
        · rcases List.mem_cons.1 hp with rfl | hp
          · exact ⟨v,hv,rfl⟩
          · exact h p hp
  intro ts
  induction ts with
  | nil=>intro l _ h; exact h
  | cons t ts ih=>intro l ht h; exact ih _ (fun x hx=>ht x (by simp [hx])) (hins _ _ (ht t (by simp)) l h)
theorem fin_one {α:Type} {mk:Key→Int→α} {ts:List (Key×Int)} (hv:∀ t∈ts,inI t.2):finS (SC 1 ts) mk=((SC 1 ts).map (fun p=>mk p.1 (narS p.2).1),0):=by
  refine fin_perm (m:=[]) (.refl _) fun p hp=>?_
  obtain ⟨v,h1,h2⟩:=SC_one ts hv p hp
  rw [h2,nar_ofI h1]
theorem nar_inI (a:Wide):inI (narS a).1:=by
  unfold narS inI
  split
  · simp only [w64_eq]; omega
  · simp
theorem ins_last {r:Int} {k:Key} {v:Wide} {l:List (Key×Wide)} (h:∀ p∈l,ltK p.1 k):ins r k v l=l++[(k,v)]:=by
  induction l with
  | nil=>rfl
  | cons p l ih=>unfold ins; rw [if_pos (h p (by simp)),ih fun q hq=>h q (by simp [hq])]; rfl
theorem SC_self {r:Int} {T:List Triple} (h:Srt T):SC r (T.map kvT)=T.map fun t=>(key t,ofI t.Val):=by
  suffices ∀ i,i≤T.length→SC r ((T.take i).map kvT)=(T.take i).map fun t=>(key t,ofI t.Val) by
    have:=this T.length (Nat.le_refl _)
    rwa [List.take_length] at this
  intro i
  induction i with
  | zero=>intro _; rfl
  | succ i ih=>
    intro hi
    rw [take_map (show i<T.length by omega),take_map (show i<T.length by omega),SC_snoc,ih (by omega),ins_last]
    · rfl
    · intro p hp
      obtain ⟨t,ht,rfl⟩:=List.mem_map.1 hp
      obtain ⟨j,hj,rfl⟩:=List.getElem_of_mem ht
      simp only [List.length_take] at hj
      rw [List.getElem_take]
      exact List.pairwise_iff_getElem.1 h j i (by omega) (by omega) (by omega)
def kvM (s:Sum):Int×Wide:=(s.At,s.Val)
def lk (l:List Sum) (i:Int):Option Wide:=mget i (l.map kvM)
def Rise (l:List Sum):Prop:=l.Pairwise fun a b=>a.At<b.At
instance (l:List Sum):Decidable (Rise l):=by unfold Rise; infer_instance
def okS (l:List Sum):Prop:=∀ s∈l,okW s.Val
theorem lk_nil (i:Int):lk [] i=none:=rfl
theorem lk_cons (s:Sum) (l:List Sum) (i:Int):lk (s :: l) i=if i=s.At then some s.Val else lk l i:=rfl
theorem lk_none:∀ {l:List Sum} {i:Int},(∀ s∈l,s.At≠i)→lk l i=none
  | [],_,_=>rfl
  | s :: l,i,h=>by rw [lk_cons,if_neg (fun e=>h s (by simp) e.symm)]; exact lk_none fun x hx=>h x (by simp [hx])
theorem lk_mem:∀ {l:List Sum} {i:Int} {v:Wide},lk l i=some v→⟨i,v⟩∈l
  | s :: l,i,v,h=>by
    rw [lk_cons] at h
    split at h
    · rename_i e; cases h; subst e; simp
    · exact List.mem_cons_of_mem _ (lk_mem h)
theorem mem_lk:∀ {l:List Sum} (h:Rise l) {s:Sum},s∈l→lk l s.At=some s.Val
  | x :: l,h,s,hs=>by
    unfold Rise at h
    rw [List.pairwise_cons] at h
    rw [lk_cons]
    rcases List.mem_cons.1 hs with e | hs
    · subst e; rw [if_pos rfl]
    · have:=h.1 s hs
      rw [if_neg (by omega)]; exact mem_lk h.2 hs
theorem lk_append:∀ (l:List Sum) (m:List Sum) (i:Int),lk (l++m) i=match lk l i with | some v=>some v | none=>lk m i
  | [],m,i=>rfl
  | s :: l,m,i=>by
    rw [List.cons_append,lk_cons,lk_cons]
    split
    · rfl
    · exact lk_append l m i
def cmb (r:Int):Option Wide→Option Wide→Option Wide
  | none,y=>y
  | some a,none=>some a
  | some a,some b=>some (addW r a b)
def ofZ (z:Int):Wide:=⟨w64 (z / 18446744073709551616),z % 18446744073709551616⟩
theorem ofZ_okW (z:Int):okW (ofZ z):=by unfold okW ofZ; simp only [w64_eq]; omega
theorem ofZ_add (x y:Int):addW 5 (ofZ x) (ofZ y)=ofZ (x+y):=by
  have e:addW 5 (ofZ x) (ofZ y)=⟨w64 ((ofZ x).Hi+(ofZ y).Hi+(if 18446744073709551616≤(ofZ x).Lo+(ofZ y).Lo then 1 else 0)),((ofZ x).Lo+(ofZ y).Lo) % 18446744073709551616⟩:=rfl
  rw [e]
  unfold ofZ
  apply wide_eta
  · simp only [w64_eq]; split <;> omega
  · simp only; omega
theorem ofI_ofZ {v:Int} (h:inI v):ofI v=ofZ v:=by
  unfold ofI ofZ inI at *
  apply wide_eta
  · simp only [w64_eq]; split <;> omega
  · rfl
theorem ofZ_nat {hi lo:Int} (h0:0≤lo) (h1:lo<18446744073709551616):(⟨w64 hi,lo⟩:Wide)=ofZ (hi*18446744073709551616+lo):=by
  unfold ofZ
  apply wide_eta
  · simp only [w64_eq]; omega
  · simp only; omega
theorem shr_u {x:Int} (k:Nat) (hk:k≤64):shr .u64 x k=x / 2 ^ k:=by
  unfold shr
  rw [Int.fdiv_eq_ediv_of_nonneg _ (Int.le_of_lt (Int.pow_pos (by omega)))]
  have:min (Int.toNat (k:Int)) (IntKind.bits .u64)=k:=by simp [IntKind.bits]; omega
  rw [this]
theorem shl_u {x:Int} (k:Nat) (hk:k≤64):shl .u64 x k=(x*2 ^ k) % 18446744073709551616:=by
  unfold shl
  rw [u64_eq]
  have:min (Int.toNat (k:Int)) (IntKind.bits .u64)=k:=by simp [IntKind.bits]; omega
  rw [this]
theorem ofInt_nat (x:Int) (h0:0≤x) (h1:x<18446744073709551616):(BitVec.ofInt 64 x).toNat=x.toNat:=by
  rw [BitVec.toNat_ofInt]
  congr 1
  exact Int.emod_eq_of_lt h0 (by simpa using h1)
theorem bor_nat {x y:Int} (hx0:0≤x) (hx1:x<18446744073709551616) (hy0:0≤y) (hy1:y<18446744073709551616):bor .u64 x y=((x.toNat ||| y.toNat:Nat):Int):=by
  unfold bor
  have e:(BitVec.ofInt (IntKind.bits .u64) x ||| BitVec.ofInt (IntKind.bits .u64) y).toNat=x.toNat ||| y.toNat:=by
    show (BitVec.ofInt 64 x ||| BitVec.ofInt 64 y).toNat=_
    rw [BitVec.toNat_or,ofInt_nat x hx0 hx1,ofInt_nat y hy0 hy1]
  rw [e,u64_eq]
  have:x.toNat ||| y.toNat<2 ^ 64:=Nat.or_lt_two_pow (by omega) (by omega)
  omega
theorem bnd_nat {x y:Int} (hx0:0≤x) (hx1:x<18446744073709551616) (hy0:0≤y) (hy1:y<18446744073709551616):bnd .u64 x y=((x.toNat &&& y.toNat:Nat):Int):=by
  unfold bnd
  have e:(BitVec.ofInt (IntKind.bits .u64) x &&& BitVec.ofInt (IntKind.bits .u64) y).toNat=x.toNat &&& y.toNat:=by
    show (BitVec.ofInt 64 x &&& BitVec.ofInt 64 y).toNat=_
    rw [BitVec.toNat_and,ofInt_nat x hx0 hx1,ofInt_nat y hy0 hy1]
  rw [e,u64_eq]
  have:x.toNat &&& y.toNat<2 ^ 64:=Nat.and_lt_two_pow _ (by omega)
  omega
theorem bor_halves {h l:Int} (hh0:0≤h) (hh1:h<4294967296) (hl0:0≤l) (hl1:l<4294967296):bor .u64 (h*4294967296) l=h*4294967296+l:=by
  rw [bor_nat (by omega) (by omega) hl0 (by omega)]
  have e:(h*4294967296).toNat=h.toNat <<< 32:=by rw [Nat.shiftLeft_eq]; omega
  rw [e,←Nat.shiftLeft_add_eq_or_of_lt (by omega),Nat.shiftLeft_eq]
  omega
theorem halves_ok {x:Int} {Q:Int×Int→Prop} (h0:0≤x) (h1:x<18446744073709551616) (hQ:Q (x % 4294967296,x / 4294967296)):wide_halves x Q:=by
  unfold wide_halves
  have e1:shl .u64 x 32=(x*4294967296) % 18446744073709551616:=shl_u 32 (by omega)
  have e2:∀ y,shr .u64 y 32=y / 4294967296:=fun y=>shr_u 32 (by omega)
  rw [e1,e2,e2]
  rwa [show x*4294967296 % 18446744073709551616 / 4294967296=x % 4294967296 by omega]
theorem product_ok {a b:Int} {Q:Wide→Prop} (ha0:0≤a) (ha1:a<18446744073709551616) (hb0:0≤b) (hb1:b<18446744073709551616) (hQ:Q (ofZ (a*b))):wide_product a b Q:=by
  unfold wide_product
  have hlt:∀ x y:Int,0≤x→x<4294967296→0≤y→y<4294967296→0≤x*y∧x*y≤18446744065119617025:=by
    intro x y h1 h2 h3 h4
    refine ⟨Int.mul_nonneg h1 h3,?_⟩
    have:=Int.mul_le_mul (show x≤4294967295 by omega) (show y≤4294967295 by omega) h3 (by omega)
    omega
  refine halves_ok ha0 ha1 (halves_ok hb0 hb1 ?_)
  simp only
  obtain ⟨x0,hx0⟩:∃ x0,x0=a % 4294967296:=⟨_,rfl⟩
  obtain ⟨x1,hx1⟩:∃ x1,x1=a / 4294967296:=⟨_,rfl⟩
  obtain ⟨y0,hy0⟩:∃ y0,y0=b % 4294967296:=⟨_,rfl⟩
  obtain ⟨y1,hy1⟩:∃ y1,y1=b / 4294967296:=⟨_,rfl⟩
  rw [←hx0,←hx1,←hy0,←hy1]
  have hab:a*b=x1*y1*18446744073709551616+(x1*y0+x0*y1)*4294967296+x0*y0:=by
    have e1:a=x1*4294967296+x0:=by omega
    have e2:b=y1*4294967296+y0:=by omega
    rw [e1,e2,Int.add_mul,Int.mul_add,Int.mul_add]
    have q1:x1*4294967296*(y1*4294967296)=x1*y1*18446744073709551616:=by rw [Int.mul_assoc,Int.mul_left_comm 4294967296 y1,←Int.mul_assoc x1]; rfl
    have q2:x1*4294967296*y0=x1*y0*4294967296:=Int.mul_right_comm _ _ _
    have q3:x0*(y1*4294967296)=x0*y1*4294967296:=(Int.mul_assoc _ _ _).symm
    rw [q1,q2,q3]; omega
  obtain ⟨b00,c00⟩:=hlt x0 y0 (by omega) (by omega) (by omega) (by omega)
  obtain ⟨b01,c01⟩:=hlt x0 y1 (by omega) (by omega) (by omega) (by omega)
  obtain ⟨b10,c10⟩:=hlt x1 y0 (by omega) (by omega) (by omega) (by omega)
  obtain ⟨b11,c11⟩:=hlt x1 y1 (by omega) (by omega) (by omega) (by omega)
  generalize x0*y0=p00 at *
  generalize x0*y1=p01 at *
  generalize x1*y0=p10 at *
  generalize x1*y1=p11 at *
  simp only [u64_eq]
  refine halves_ok (by omega) (by omega) ?_
  simp only
  refine halves_ok (by omega) (by omega) ?_
  simp only
  refine halves_ok (by omega) (by omega) (halves_ok (by omega) (by omega) ?_)
  simp only
  have e3:∀ y,shl .u64 y 32=(y*4294967296) % 18446744073709551616:=fun y=>shl_u 32 (by omega)
  rw [e3]
  have e4:∀ y:Int,(y % 4294967296*4294967296) % 18446744073709551616=y % 4294967296*4294967296:=fun y=>by omega
  rw [e4,bor_halves (by omega) (by omega) (by omega) (by omega),ofZ_nat (by omega) (by omega)]
  rw [hab] at hQ
  have hfin:ofZ (((((p11 % 18446744073709551616+(p10 % 18446744073709551616+p00 % 18446744073709551616 / 4294967296) % 18446744073709551616 / 4294967296) % 18446744073709551616+(p01 % 18446744073709551616+(p10 % 18446744073709551616+p00 % 18446744073709551616 / 4294967296) % 18446744073709551616 % 4294967296) % 18446744073709551616 / 4294967296) % 18446744073709551616)*18446744073709551616+((p01 % 18446744073709551616+(p10 % 18446744073709551616+p00 % 18446744073709551616 / 4294967296) % 18446744073709551616 % 4294967296) % 18446744073709551616 % 4294967296*4294967296+p00 % 18446744073709551616 % 4294967296)))=ofZ (p11*18446744073709551616+(p10+p01)*4294967296+p00):=by
    unfold ofZ
    apply wide_eta
    · simp only [w64_eq]; omega
    · simp only; omega
  rw [hfin]; exact hQ
theorem sub_ok {x:Int} {Q:Wide→Prop} (hQ:Q (ofZ (-x))):wide_Sub ⟨0,0⟩ (ofZ x) Q:=by
  unfold wide_Sub wide_carry
  have key:∀ c:Int,(c=if 0<(ofZ x).Lo then 1 else 0)→(⟨w64 ((((0 % 18446744073709551616) - ((ofZ x).Hi % 18446744073709551616)) % 18446744073709551616 - c) % 18446744073709551616),(0 - (ofZ x).Lo) % 18446744073709551616⟩:Wide)=ofZ (-x):=by
    intro c hc
    unfold ofZ at *
    subst hc
    apply wide_eta
    · simp only [w64_eq]; split <;> omega
    · simp only; omega
  simp only [u64_eq]
  refine ifP_dec (fun h=>?_) (fun h=>?_)
  · rw [key 1 (by rw [if_pos h])]; exact hQ
  · rw [key 0 (by rw [if_neg h])]; exact hQ
theorem wide_Mul_ok {a b:Int} {Q:Wide→Prop} (ha:inI a) (hb:inI b) (hQ:Q (ofZ (a*b))):wide_Mul a b Q:=by
  unfold wide_Mul
  unfold inI at ha hb
  have hs:∀ {x:Int} {K:Int→Prop},-9223372036854775808≤x∧x≤9223372036854775807→K (if x<0 then -x else x)→wide_size x K:=by
    intro x K hx hK
    unfold wide_size
    simp only [u64_eq]
    refine ifP_dec (fun h=>?_) (fun h=>?_)
    · rw [if_pos h] at hK; rwa [show (0 - x % 18446744073709551616) % 18446744073709551616 = -x by omega]
    · rw [if_neg h] at hK; rwa [show x % 18446744073709551616=x by omega]
  refine hs ha (hs hb ?_)
  have m1 : -a*b = -(a*b):=Int.neg_mul _ _
  have m2:a * -b = -(a*b):=Int.mul_neg _ _
  have m3 : -a * -b=a*b:=Int.neg_mul_neg _ _
  refine product_ok (by split <;> omega) (by split <;> omega) (by split <;> omega) (by split <;> omega) ?_
  by_cases h1:a<0 <;> by_cases h2:b<0
  · rw [if_pos h1,if_pos h2,m3]
    exact ifP_neg (by simp [h1,h2]) hQ
  · rw [if_pos h1,if_neg h2,m1]
    exact ifP_pos (by simp [h1,h2]) (sub_ok (by rwa [Int.neg_neg]))
  · rw [if_neg h1,if_pos h2,m2]
    exact ifP_pos (by simp [h1,h2]) (sub_ok (by rwa [Int.neg_neg]))
  · rw [if_neg h1,if_neg h2]
    exact ifP_neg (by simp [h1,h2]) hQ
def mulW (r a x:Int):Wide:=
  if r=2 then (if a≠0∧x≠0 then ⟨0,1⟩ else ⟨0,0⟩)
  else if r=5 then ofZ (a*x)
  else if r=1∨r=3∨r=4 then
    (if 4611686018427387904≤a∨4611686018427387904≤x then ofZ 4611686018427387904
     else if r=3 then ofZ a else if r=4 then ofZ x else if leW (ofZ 4611686018427387904) (ofZ (a+x)) then ofZ 4611686018427387904 else ofZ (a+x))
  else ⟨0,0⟩
theorem mulW_okW (r a x:Int):okW (mulW r a x):=by
  have h0:okW ⟨0,0⟩:=by unfold okW; simp
  have h1:okW ⟨0,1⟩:=by unfold okW; simp
  unfold mulW
  repeat' split
  all_goals first | exact ofZ_okW _ | exact h0 | exact h1
theorem leW_ofZ {x y:Int} (hx : -170141183460469231731687303715884105728≤x∧x<170141183460469231731687303715884105728) (hy : -170141183460469231731687303715884105728≤y∧y<170141183460469231731687303715884105728):leW (ofZ x) (ofZ y)↔x≤y:=by
  have h:∀ z:Int,-170141183460469231731687303715884105728≤z∧z<170141183460469231731687303715884105728→w64 (z / 18446744073709551616)=z / 18446744073709551616:=by
    intro z hz; rw [w64_eq]; omega
  unfold leW ofZ
  simp only [h x hx,h y hy]
  omega
theorem ring_Mul_ok {r a x:Int} {Q:Wide→Prop} (ha:inI a) (hx:inI x) (hQ:Q (mulW r a x)):ring_Mul r a x Q:=by
  unfold ring_Mul
  unfold mulW at hQ
  have ia:inI 4611686018427387904:=by unfold inI; omega
  refine ifP_eq (fun h=>?_) (fun h=>ifP_eq (fun h5=>?_) (fun h5=>?_))
  · rw [if_pos h] at hQ
    refine ifP_ne (fun h1=>truth_ok ?_) (fun h1=>truth_ok ?_)
    · simpa [h1] using hQ
    · simpa [h1] using hQ
  · rw [if_neg h,if_pos h5] at hQ
    exact wide_Mul_ok ha hx hQ
  · rw [if_neg h,if_neg h5] at hQ
    have emax:(if x > a then x else a)≥4611686018427387904↔4611686018427387904≤a∨4611686018427387904≤x:=by split <;> omega
    refine join_intro (fun _=>¬((1≤r∧r≤5)∧(4611686018427387904≤a∨4611686018427387904≤x))) ?_ ?_
    · rintro _ hno
      refine join_intro (fun p:Int×Int=>(⟨p.1,p.2⟩:Wide)=ofZ (if r=1 then a else 0)∧(r=1∨r=4)) ?_ ?_
      · rintro ⟨p1,p2⟩ ⟨hp,hr⟩
        simp only at hp ⊢
        refine wide_Of_ok ia (wide_Of_ok hx ?_)
        rw [hp,ofI_ofZ ia,ofI_ofZ hx]
        refine wide_Add_ok (ofZ_okW _) (ofZ_okW _) (lesser_ok ?_)
        rw [ofZ_add]
        rw [if_pos (by omega),if_neg (by omega),if_neg (by omega)] at hQ
        rcases hr with hr | hr
        · rw [if_pos hr]; rwa [if_neg (by omega)] at hQ
        · rw [if_neg (show ¬r=1 by omega),show (0:Int)+x=x by omega]
          rw [if_pos hr] at hQ
          unfold inI at hx
          rwa [if_neg (by rw [leW_ofZ (by omega) (by omega)]; omega)]
      · intro k hk
        refine ifP_eq (fun h1=>wide_Of_ok ha (hk _ ⟨?_,.inl h1⟩)) (fun h1=>ifP_eq (fun h4=>hk _ ⟨?_,.inr h4⟩) (fun h4=>ifP_eq (fun h3=>wide_Of_ok ha ?_) (fun h3=>?_)))
        · rw [if_pos h1]; exact ofI_ofZ ha
        · rw [if_neg h1]; decide
        · rw [if_pos (by omega),if_neg (by omega),if_pos h3] at hQ
          rw [ofI_ofZ ha]; exact hQ
        · rw [if_neg (by omega)] at hQ; exact hQ
    · intro k hk
      refine ring_Is_ok ⟨fun h1=>ifP_dec (fun h2=>wide_Of_ok ia ?_) (fun h2=>hk _ ?_),fun h1=>hk _ ?_⟩
      · have h1:=of_decide_eq_true h1
        rw [if_pos (by omega),if_pos (emax.1 h2)] at hQ
        rw [ofI_ofZ ia]; exact hQ
      · exact fun h'=>h2 (emax.2 h'.2)
      · exact fun h'=>of_decide_eq_false h1 h'.1
end Go.Proofs.YtaefnmlbnkmahaaGreat
