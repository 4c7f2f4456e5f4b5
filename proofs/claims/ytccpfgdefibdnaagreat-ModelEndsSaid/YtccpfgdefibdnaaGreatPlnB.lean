import Derived.Test.YtccpfgdefibdnaaGreatFwQ
import Derived.Test.YtccpfgdefibdnaaGreatPushE
namespace Go.Proofs.YtccpfgdefibdnaaGreat
open Go Go.Fw
set_option linter.unusedVariables false
set_option linter.unusedSimpArgs false
def nextS (f:List Int) (n:Int):Int:=((listF f).find? fun i=>decide (n≤i)).getD (-1)
theorem nextS_some {f:List Int} {n p:Int} (h:hasF f p=true) (hn:n≤p) (hm:∀ q,q<p→n≤q→hasF f q=false):nextS f n=p:=by
  have hp:=listF_mem.2 h
  have hinc:=listF_incr f
  have hmem:∀ q∈listF f,hasF f q=true:=fun q hq=>listF_mem.1 hq
  unfold nextS
  generalize listF f=l at hp hinc hmem
  induction l with
  | nil=>simp at hp
  | cons x l ih=>
    rw [List.pairwise_cons] at hinc
    rw [List.find?_cons]
    by_cases e:n≤x
    · rw [decide_eq_true e]
      simp only [Option.getD_some]
      rcases List.mem_cons.1 hp with e' | hp
      · exact e'.symm
      · have:=hinc.1 p hp
        have:=hm x (by omega) e
        rw [hmem x (by simp)] at this; cases this
    · rw [decide_eq_false e]
      rcases List.mem_cons.1 hp with e' | hp
      · omega
      · exact ih hp hinc.2 fun q hq=>hmem q (by simp [hq])
theorem nextS_none {f:List Int} {n:Int} (h:∀ q,n≤q→hasF f q=false):nextS f n = -1:=by
  unfold nextS
  rw [List.find?_eq_none.2]
  · rfl
  · intro q hq hd
    have:=h q (of_decide_eq_true hd)
    rw [listF_mem.1 hq] at this; cases this
theorem bnd_one {x:Int} (h0:0≤x) (h1:x<18446744073709551616):bnd .u64 x 1=x % 2:=by
  rw [bnd_nat h0 h1 (by omega) (by omega),show Int.toNat 1=1 from rfl,Nat.and_one_is_mod]; omega
theorem shr_one (x:Int):shr .u64 x 1=x / 2:=shr_u 1 (by omega)
theorem word_bit {f:List Int} (hf:okF f) {i j:Nat} (hj:j<64) {w:Int} (hw:w=at0 f i / 2 ^ j):(hasF f (64*i+j)=true↔w % 2=1):=by
  have hb:=okF_at hf i
  unfold hasF
  rw [show (64*(i:Int)+j) / 64=i by omega,show ((64*(i:Int)+j) % 64).toNat=j by omega]
  rw [Nat.testBit_eq_decide_div_mod_eq]
  have e:w=(((at0 f i).toNat / 2 ^ j:Nat):Int):=by
    rw [hw,Int.natCast_ediv,Int.natCast_pow,Int.toNat_of_nonneg hb.1]; rfl
  rw [e]
  simp only [show decide ((0:Int)≤64*i+j)=true by simp; omega,Bool.true_and,decide_eq_true_eq]
  omega
theorem word_zero {f:List Int} (hf:okF f) {i j k:Nat} (hjk:j≤k) (hk:k<64) {w:Int} (hw:w=at0 f i / 2 ^ j) (h0:w=0):hasF f (64*i+k)=false:=by
  have hb:=okF_at hf i
  unfold hasF
  rw [show (64*(i:Int)+k) / 64=i by omega,show ((64*(i:Int)+k) % 64).toNat=k by omega]
  have e:w=(((at0 f i).toNat / 2 ^ j:Nat):Int):=by
    rw [hw,Int.natCast_ediv,Int.natCast_pow,Int.toNat_of_nonneg hb.1]; rfl
  have hlt:(at0 f i).toNat<2 ^ j:=by
    have h0':(at0 f i).toNat / 2 ^ j=0:=by omega
    rcases Nat.div_eq_zero_iff.1 h0' with h | h
    · exact absurd h (Nat.ne_of_gt (Nat.pow_pos (by omega)))
    · exact h
  rw [Nat.testBit_lt_two_pow (Nat.lt_of_lt_of_le hlt (Nat.pow_le_pow_right (by omega) hjk))]
  simp
theorem word_half {f:List Int} {i j:Nat} {w:Int} (hw:w=at0 f i / 2 ^ j):w / 2=at0 f i / 2 ^ (j+1):=by
  rw [hw,Int.ediv_ediv_of_nonneg (by exact Int.le_of_lt (Int.pow_pos (by omega))),Int.pow_succ]
theorem flags_Next_ok {f:List Int} {n:Int} {Q:Int→Prop} (hf:okF f) (hl:f.length≤1000000) (hQ:Q (nextS f n)):flags_Next f n Q:=by
  unfold flags_Next flags_each_555 flags_each_1_6c7
  refine range_intro (s0:=((0:Int),(0:Nat))) (fun (s:Int×Nat) i=>(s.1,i,s.2)) 0 f.length (by omega) (fun k s=>s.2=0∧∀ q,q<64*(k:Int)→n≤q→hasF f q=false) (by omega) ⟨rfl,fun q hq _=>hasF_neg (by omega)⟩ (fun k s next _ hk hs hn=>?_) (fun s next hs=>?_)
  · obtain ⟨s1,s2⟩:=s
    obtain ⟨h1,h2⟩:=hs
    simp only at h1 h2 ⊢
    subst h1
    have hb:=okF_at hf k
    refine ifP_dec (fun _=>idxP_at0 (by omega) (by omega) ?_) (fun h=>by omega)
    have esh:shl .i64 (k:Int) 6=64*(k:Int):=by
      show w64 ((k:Int)*2 ^ 6)=_
      rw [w64_id (by omega) (by omega)]; omega
    rw [esh]
    refine loop_intro (fun s:Int×Int×Int×Nat=>∃ j:Nat,j≤64∧s.2.2.1=64*k+j∧s.2.1=at0 f k / 2 ^ j∧s.2.2.2=0∧∀ q,q<64*(k:Int)+j→n≤q→hasF f q=false) (fun s=>s.2.1.toNat) ⟨0,by omega,by simp,by simp,rfl,fun q hq=>h2 q (by omega)⟩ ?_
    rintro ⟨t1,w,at',t4⟩ nx ⟨j,hj,ha,hw,h4,h5⟩ hnx
    simp only at ha hw h4 h5 ⊢
    subst h4
    have hw0:0≤w∧w<18446744073709551616:=by
      rw [hw]
      have hp:(0:Int)<2 ^ j:=Int.pow_pos (by omega)
      exact ⟨Int.ediv_nonneg hb.1 (Int.le_of_lt hp),Int.lt_of_le_of_lt (Int.ediv_le_self _ hb.1) hb.2⟩
    have e1:w64 (at'+1)=64*(k:Int)+((j+1:Nat):Int):=by rw [ha,w64_id (by omega) (by omega)]; omega
    refine ifP_ne (fun hne=>?_) (fun he=>?_)
    · have hj64:j<64:=by
        rcases Nat.lt_or_ge j 64 with h | h
        · exact h
        · have:j=64:=by omega
          subst this
          exfalso; apply hne; rw [hw]
          exact Int.ediv_eq_zero_of_lt hb.1 hb.2
      have hbit:=word_bit hf hj64 hw
      rw [bnd_one hw0.1 hw0.2,shr_one,e1]
      refine ifP_eq (fun h1=>⟨rfl,ifP_dec (fun hge=>?_) (fun hlt=>?_)⟩) (fun h1=>?_)
      · refine ifP_pos rfl (ifP_neg (by simp) ⟨rfl,?_⟩)
        rw [nextS_some (p:=at') (by rw [ha]; exact hbit.2 h1) hge (fun q hq hnq=>h5 q (by omega) hnq)] at hQ
        exact hQ
      · refine ifP_neg rfl (hnx _ ⟨j+1,by omega,rfl,word_half hw,rfl,fun q hq hnq=>?_⟩ (by simp only; omega))
        rcases Int.lt_or_le q (64*(k:Int)+j) with h | h
        · exact h5 q h hnq
        · omega
      · refine hnx _ ⟨j+1,by omega,rfl,word_half hw,rfl,fun q hq hnq=>?_⟩ (by simp only; omega)
        rcases Int.lt_or_le q (64*(k:Int)+j) with h | h
        · exact h5 q h hnq
        · have:q=64*(k:Int)+j:=by omega
          subst this
          cases hc:hasF f (64*(k:Int)+j) with
          | false=>rfl
          | true=>exact absurd (hbit.1 hc) h1
    · refine hn (_,0) ⟨rfl,fun q hq hnq=>?_⟩
      rcases Int.lt_or_le q (64*(k:Int)+j) with h | h
      · exact h5 q h hnq
      · obtain ⟨m,rfl⟩:∃ m:Nat,q=64*(k:Int)+m:=⟨(q - 64*k).toNat,by omega⟩
        exact word_zero hf (j:=j) (by omega) (by omega) hw he
  · obtain ⟨s1,s2⟩:=s
    obtain ⟨h1,h2⟩:=hs
    simp only at h1 h2 ⊢
    subst h1
    refine ifP_dec (fun h=>by omega) (fun _=>ifP_pos rfl ?_)
    rw [nextS_none] at hQ
    · exact hQ
    · intro q hq
      rcases Int.lt_or_le q (64*(f.length:Int)) with h | h
      · exact h2 q h hq
      · exact hasF_over h
theorem nextS_neg {f:List Int} {n:Int} (h0:0≤n):nextS f n<0↔∀ i∈listF f,i<n:=by
  unfold nextS
  cases hc:(listF f).find? fun i=>decide (n≤i) with
  | none=>
    rw [List.find?_eq_none] at hc
    simp only [Option.getD_none]
    exact ⟨fun _ i hi=>by have:=hc i hi; simp at this; omega,fun _=>by omega⟩
  | some q=>
    have hq:=List.find?_some hc
    have hm:=List.mem_of_find?_eq_some hc
    have hq:=of_decide_eq_true hq
    simp only [Option.getD_some]
    exact ⟨fun h=>by omega,fun h=>by have:=h q hm; omega⟩
theorem flags_Right_ok {f:List Int} {n:Int} {Q:Bool→Prop} (hf:okF f) (hl:f.length≤1000000) (hQ:Q (decide (rightF f n))):flags_Right f n Q:=by
  unfold flags_Right
  have hno:¬rightF f n→Q false:=fun h=>by rwa [decide_eq_false h] at hQ
  refine ifP_dec (fun h0=>ifP_dec (fun h1=>flags_words_ok (ifP_eq (fun h2=>flags_Next_ok hf hl ?_) (fun h2=>hno fun h=>h2 (by rw [h.2.1])))) (fun h1=>hno fun h=>h1 h.1.2)) (fun h0=>hno fun h=>h0 h.1.1)
  have:decide (nextS f n<0)=decide (rightF f n):=decide_eq_decide.2 (by
    rw [nextS_neg h0]
    exact ⟨fun h=>⟨⟨h0,h1⟩,by omega,h⟩,fun h=>h.2.2⟩)
  rw [this]; exact hQ
theorem devec_Right_ok {v:Vec} {Q:Bool→Prop} (h:VecP v) (hQ:Q true):devec_Right (denS v) Q:=by
  unfold devec_Right
  have h0:=h.n0; have h1:=h.n1
  have hN:(denS v).N=v.N:=rfl
  have hVl:((denS v).Vals.length:Int)=v.N:=by simp [denS,valsS]; omega
  refine flags_Right_ok (den_okF v) (by have:=den_len v; omega) ?_
  rw [show decide (rightF (denS v).Has (denS v).N)=true from decide_eq_true (ofF_right ⟨h0,h1⟩ _)]
  refine ifP_neg rfl (ifP_ne (fun h'=>absurd hVl h') (fun _=>?_))
  refine scan_intro (denS v).Vals.length (by omega) (fun _=>True) trivial (fun k next hk _ hn=>?_) (fun next _=>?_)
  · refine ifP_dec (fun _=>idxP_at0 (by omega) (by omega) (ifP_ne (fun h'=>flags_Has_ok (den_okF v) (by unfold inI; omega) (ifP_not (fun hb=>?_) (fun _=>hn trivial))) (fun _=>hn trivial))) (fun h'=>by omega)
    rw [den_has h] at hb
    have:at0 (denS v).Vals (k:Int)=(lkI v.Items k).getD 0:=at0_valsS (by omega) (by omega)
    rw [this] at h'
    cases hlk:lkI v.Items (k:Int) with
    | none=>rw [hlk] at h'; exact absurd rfl h'
    | some y=>rw [hlk] at hb; cases hb
  · exact ifP_dec (fun h'=>by omega) (fun _=>hQ)
theorem pull_sure_ok {rows cols:Int} {ts:List Triple} {v:Vec} {Q:Rows×Dense→Prop} (h:Canon rows cols ts) (hv:VecP v) (hQ:Q (builtS rows cols ts,denS v)):pull_sure (builtS rows cols ts) (denS v) Q:=by
  unfold pull_sure
  refine join_intro (fun t=>(⟨t.1,t.2.1,t.2.2.1,t.2.2.2.1,t.2.2.2.2⟩:Rows)=builtS rows cols ts) ?_ ?_
  · rintro ⟨t1,t2,t3,t4,t5⟩ ht
    simp only at ht ⊢
    rw [ht]
    exact devec_Right_ok hv (ifP_neg rfl hQ)
  · intro k hk
    refine right_ok h.sml ?_
    rw [decide_eq_true h.right]
    exact ifP_neg rfl (hk _ rfl)
theorem pull_row_ok {r rows cols:Int} {ts:List Triple} {v:Vec} {i:Nat} {Q:Wide×Bool→Prop} (h:Canon rows cols ts) (ht:∀ t∈ts,inI t.Val) (hv:VecP v) (hn:v.N=cols) (hvv:∀ y∈v.Items,inI y.Val) (hi:(i:Int)<rows)
    (hQ:Q (((rowW r cols.toNat (lkI (rowI ts i)) (lkI v.Items)).getD ⟨0,0⟩),(rowW r cols.toNat (lkI (rowI ts i)) (lkI v.Items)).isSome)):pull_row r (builtS rows cols ts) i (denS v) Q:=by
  unfold pull_row pull_adder_6fc pull_adder_2_cdb
  have hr1:=h.r1; have hc1:=h.c1; have hlen:=h.len
  obtain ⟨lo,hi',sg⟩:=h.seg i
  have e1:w64 ((i:Int)+1)=(i+1:Nat):=by rw [w64_id (by omega) (by omega)]; omega
  rw [e1]
  refine start_idx (by omega) ?_
  rw [sg.lo]
  have g1:=sg.le; have g2:=sg.len
  have hrow:rowI ts i=((ts.take hi').drop lo).map itS:=by rw [sg.eq]; simp [rowI]
  have hin:IncI (rowI ts i)∧∀ x∈rowI ts i,0≤x.At∧x.At<cols.toNat:=by
    rw [rowI_colI ts (by omega)]
    refine ⟨colI_inc h.srt _,fun x hx=>?_⟩
    have:=h.inn _ (colI_mem.1 hx); unfold inT at this; simp only at this; omega
  have hfold:=row_fold (r:=r) (B:=lkI v.Items) hin.1 hin.2
  refine range_intro (s0:=(none:Option Wide)) (fun (s:Option Wide) k=>(s.isSome,(s.getD ⟨0,0⟩).Hi,(s.getD ⟨0,0⟩).Lo,k)) lo hi' (by omega) (fun p acc=>acc=(((ts.take p).drop lo).map itS).foldl (stepI r (lkI v.Items)) none) (by omega) (by simp) (fun p acc next' hp1 hp2 hacc hn'=>?_) (fun acc next' hacc=>?_)
  · dsimp only
    have hpl:p<ts.length:=by omega
    have hok:∀ w,acc=some w→okW w:=by subst hacc; exact foldI_okW r _ _ none (fun w hw=>by cases hw)
    have hstep:(((ts.take (p+1)).drop lo).map itS).foldl (stepI r (lkI v.Items)) none=stepI r (lkI v.Items) acc (itS ts[p]):=by
      rw [ext_step hp1 hpl,List.map_append,List.foldl_append,←hacc]; rfl
    have hint:=h.inn _ (List.getElem_mem hpl)
    unfold inT at hint
    refine start_idx (by omega) ?_
    rw [sg.hi]
    refine ifP_dec (fun _=>?_) (fun h=>by omega)
    refine idxP_intro (by omega) (x:=ts[p].Col) (by simp [builtS,hpl]) (flags_Has_ok (den_okF v) (by unfold inI; omega) ?_)
    rw [den_has hv]
    have hval:at0 (denS v).Vals ts[p].Col=(lkI v.Items ts[p].Col).getD 0:=at0_valsS hint.2.2.1 (by omega)
    have hVl:((denS v).Vals.length:Int)=v.N:=by have:=hv.n0; simp [denS,valsS]; omega
    cases hB':lkI v.Items ts[p].Col with
    | none=>
      refine ifP_neg rfl (hn' acc ?_)
      rw [hstep]; unfold stepI; simp only [itS,hB']
    | some x=>
      rw [hB'] at hval
      refine ifP_pos rfl (idxP_intro (by omega) (x:=ts[p].Val) (by simp [builtS,hpl]) (idxP_at0 hint.2.2.1 (by omega) ?_))
      rw [hval]
      refine ring_Mul_ok (ht _ (List.getElem_mem hpl)) (hvv _ (lkI_mem hB')) ?_
      have hst:stepI r (lkI v.Items) acc (itS ts[p])=cmb r acc (some (mulW r ts[p].Val x)):=by unfold stepI; simp only [itS,hB']
      unfold pull_adder_1_b72
      cases acc with
      | none=>exact ifP_neg rfl (hn' (some (mulW r ts[p].Val x)) (by rw [hstep,hst]; rfl))
      | some w=>exact ifP_pos rfl (ring_Add_ok (hok w rfl) (mulW_okW _ _ _) (hn' (some (addW r w (mulW r ts[p].Val x))) (by rw [hstep,hst]; rfl)))
  · dsimp only
    refine start_idx (by omega) ?_
    rw [sg.hi]
    refine ifP_dec (fun h=>by omega) (fun _=>?_)
    rw [←hrow,hfold] at hacc
    subst hacc
    exact hQ
theorem pull_Sums_ok {r rows cols:Int} {ts:List Triple} {v:Vec} {f:List Int} {o:Bool} {Q:List Sum×Int→Prop} (h:Canon rows cols ts) (ht:∀ t∈ts,inI t.Val) (hv:VecP v) (hvv:∀ y∈v.Items,inI y.Val)
    (hf:okF f) (hQ:Q (sumsR r rows cols ts v f o)):pull_Sums r (builtS rows cols ts) (denS v) f o Q:=by
  unfold pull_Sums
  unfold sumsR at hQ
  have hr0:=h.r0; have hr1:=h.r1
  refine pull_sure_ok h hv (ring_Is_ok (ifP_not (fun h'=>?_) (fun h'=>ifP_ne (fun hne=>?_) (fun he=>?_))))
  · rw [if_pos (of_decide_eq_false h')] at hQ; exact hQ
  · rw [if_neg (by have:=of_decide_eq_true h'; omega),if_pos (show v.N≠cols from hne)] at hQ; exact hQ
  have hr:=of_decide_eq_true h'
  have he:v.N=cols:=he
  rw [if_neg (by omega),if_neg (by omega)] at hQ
  unfold pull_asked_064 pull_asked_1_839
  have hB:(builtS rows cols ts).Rows=rows:=rfl
  refine range_intro (s0:=(([]:List Sum),(0:Nat))) (fun (s:List Sum×Nat) i=>(s.1,i,s.2)) 0 rows.toNat (by omega) (fun m s=>s.2=0∧s.1=sumsS r m cols.toNat f o (fun i=>lkI (rowI ts i)) (lkI v.Items)) (by omega) ⟨rfl,by simp [sumsS]⟩ (fun i s next _ hi hs hn=>?_) (fun s next hs=>?_)
  · obtain ⟨s,s2⟩:=s
    obtain ⟨h2,hs⟩:=hs
    simp only at h2 hs ⊢
    subst h2
    have hsl:s.length≤i:=by subst hs; exact (sumsS_prop r cols.toNat f o (fun i=>lkI (rowI ts i)) (lkI v.Items) i).2.1
    have hsucc:=sumsS_succ r i cols.toNat f o (fun i=>lkI (rowI ts i)) (lkI v.Items)
    rw [←hs] at hsucc
    refine ifP_dec (fun _=>flags_Has_ok hf (by unfold inI; omega) (ifP_not (fun hb=>⟨rfl,?_⟩) (fun hb=>hn (s,0) ⟨rfl,?_⟩))) (fun h'=>by rw [hB] at h'; omega)
    · have hask:askF f o i=true:=by unfold askF; rw [bne,hb]; rfl
      rw [if_pos hask] at hsucc
      refine pull_row_ok h ht hv he hvv (by omega) ?_
      cases hw:rowW r cols.toNat (lkI (rowI ts i)) (lkI v.Items) with
      | none=>
        refine ifP_neg rfl (ifP_neg rfl (hn (s,0) ⟨rfl,?_⟩))
        simp only
        rw [hsucc,hw]; simp
      | some w=>
        refine ifP_pos rfl (appP_intro (by simp; omega) (ifP_neg rfl (hn (s++[⟨i,w⟩],0) ⟨rfl,?_⟩)))
        simp only
        rw [hsucc,hw]; rfl
    · have hno:¬askF f o i=true:=by unfold askF; rw [bne,hb]; simp
      simp only
      rw [hsucc,if_neg hno]; simp
  · obtain ⟨s,s2⟩:=s
    obtain ⟨h2,hs⟩:=hs
    simp only at h2 hs ⊢
    subst h2
    refine ifP_dec (fun h'=>by rw [hB] at h'; omega) (fun _=>⟨rfl,?_⟩)
    subst hs; exact hQ
theorem rowW_succ (r:Int) (n:Nat) (A B:Int→Option Int):rowW r (n+1) A B=stepW r A B (rowW r n A B) n:=by
  unfold rowW; rw [List.range_succ,List.foldl_append]; rfl
theorem lkI_iff {l:List Item} (h:IncI l) {i a:Int}:lkI l i=some a↔(⟨i,a⟩:Item)∈l:=⟨lkI_mem,fun hm=>mem_lkI h hm⟩
def badD (l:List Int):Prop:=∃ d∈l,d<0∨2147483647<d
instance (l:List Int):Decidable (badD l):=by unfold badD; infer_instance
def rightPl (p:Plan):Int:=
  if p.Kind<1∨5<p.Kind then 8
  else if p.N<0∨4096<p.N∨((p.Kind=1∨p.Kind=2∨p.Kind=4)∧(p.Source<0∨p.N≤p.Source))∨(p.Kind=4∧(p.Length<0∨8192<p.Length)) then 3
  else if 65536<p.Draws.length then 5
  else if badD p.Draws then 7 else 0
theorem rightPl_zero {p:Plan} (h:rightPl p=0):(1≤p.Kind∧p.Kind≤5)∧(0≤p.N∧p.N≤4096)∧((p.Kind=1∨p.Kind=2∨p.Kind=4)→0≤p.Source∧p.Source<p.N)∧(p.Kind=4→0≤p.Length∧p.Length≤8192)∧p.Draws.length≤65536∧∀ d∈p.Draws,0≤d∧d≤2147483647:=by
  unfold rightPl at h
  split at h
  · cases h
  split at h
  · cases h
  split at h
  · cases h
  split at h
  · cases h
  rename_i h1 h2 h3 h4
  refine ⟨by omega,by omega,by omega,by omega,by omega,fun d hd=>?_⟩
  have:¬(d<0∨2147483647<d):=fun hb=>h4 ⟨d,hd,hb⟩
  omega
theorem draws_bad_ok {l:List Int} {Q:Bool→Prop} (hl:l.length≤65536) (hQ:Q (decide (badD l))):slices_ContainsFunc_int64_int64_80a l Q:=by
  unfold slices_ContainsFunc_int64_int64_80a slices_IndexFunc_int64_int64_135 prog_Right_1_a45
  refine scan_intro l.length (by omega) (fun i=>∀ (j:Nat) (hj:j<l.length),j<i→¬(l[j]<0∨2147483647<l[j])) (by simp) (fun i next hi hR hn=>?_) (fun next hR=>?_)
  · refine ifP_dec (fun _=>?_) (fun h=>by omega)
    have hbad (hb:l[i]<0∨2147483647<l[i]):Q (decide (0≤(i:Int))):=by
      rwa [decide_eq_true (show badD l from ⟨_,List.getElem_mem hi,hb⟩),←decide_eq_true (show (0:Int)≤i by omega)] at hQ
    refine idxP_nat hi (ifP_dec (fun h1=>ifP_pos rfl (hbad (.inl h1))) (fun h1=>ifP_dec (fun h2=>hbad (.inr h2)) (fun h2=>hn fun j hj hji=>?_)))
    by_cases e:j=i
    · subst e; omega
    · exact hR j hj (by omega)
  · refine ifP_dec (fun h=>by omega) (fun _=>?_)
    rwa [decide_eq_false (fun ⟨d,hd,hb⟩=>by
      obtain ⟨j,hj,rfl⟩:=List.getElem_of_mem hd
      exact hR j hj hj hb),←decide_eq_false (show ¬(0:Int) ≤ -1 by omega)] at hQ
theorem prog_Right_ok {p:Plan} {Q:Int→Prop} (hQ:Q (rightPl p)):prog_Right p Q:=by
  unfold prog_Right prog_within joinP
  unfold rightPl at hQ
  refine ifP_dec (fun h1=>by rwa [if_pos (by omega)] at hQ) (fun h1=>ifP_dec (fun h2=>by rwa [if_pos (by omega)] at hQ) (fun h2=>?_))
  rw [if_neg (by omega)] at hQ
  have hE (hb:p.N<0∨4096<p.N∨((p.Kind=1∨p.Kind=2∨p.Kind=4)∧(p.Source<0∨p.N≤p.Source))∨(p.Kind=4∧(p.Length<0∨8192<p.Length))):Q 3:=by rwa [if_pos hb] at hQ
  refine ifP_dec (fun h3=>ifP_not (fun h4=>hE (by have:=of_decide_eq_false h4; omega)) (fun h4=>?_)) (fun h3=>ifP_pos rfl (hE (by omega)))
  replace h4:=of_decide_eq_true h4
  have hw:w64 (p.N - 1)=p.N - 1:=w64_id (by omega) (by omega)
  have hk (hb:¬(p.N<0∨4096<p.N∨((p.Kind=1∨p.Kind=2∨p.Kind=4)∧(p.Source<0∨p.N≤p.Source))∨(p.Kind=4∧(p.Length<0∨8192<p.Length)))) :
      ifP (decide (65536<(p.Draws.length:Int))) (Q 5) (slices_ContainsFunc_int64_int64_80a p.Draws fun r141=>ifP r141 (Q 7) (Q 0)):=by
    rw [if_neg hb] at hQ
    refine ifP_dec (fun h=>by rwa [if_pos (by omega)] at hQ) (fun h=>?_)
    rw [if_neg (by omega)] at hQ
    exact draws_bad_ok (by omega) (ifP_dec (fun h=>by rwa [if_pos h] at hQ) (fun h=>by rwa [if_neg h] at hQ))
  have hs (hkd:p.Kind=1∨p.Kind=2∨p.Kind=4) (hln:p.Kind=4→0≤p.Length∧p.Length≤8192) :
      ifP (decide (0≤p.Source)) (ifP (!decide (p.Source≤w64 (p.N - 1))) (Q 3) (ifP (decide (65536<(p.Draws.length:Int))) (Q 5) (slices_ContainsFunc_int64_int64_80a p.Draws fun r141=>ifP r141 (Q 7) (Q 0))))
        (ifP (!false) (Q 3) (ifP (decide (65536<(p.Draws.length:Int))) (Q 5) (slices_ContainsFunc_int64_int64_80a p.Draws fun r141=>ifP r141 (Q 7) (Q 0)))):=by
    refine ifP_dec (fun h5=>ifP_not (fun h6=>hE (by have:=of_decide_eq_false h6; omega)) (fun h6=>hk (by have:=of_decide_eq_true h6; omega))) (fun h5=>ifP_pos rfl (hE (by omega)))
  refine ifP_eq (fun h5=>ifP_dec (fun h6=>ifP_not (fun h7=>hE (by have:=of_decide_eq_false h7; omega)) (fun h7=>hs (by omega) (fun _=>⟨h6,of_decide_eq_true h7⟩))) (fun h6=>ifP_pos rfl (hE (by omega)))) (fun h5=>?_)
  exact ifP_eq (fun h6=>hs (by omega) (by omega)) (fun h6=>ifP_eq (fun h7=>hs (by omega) (by omega)) (fun h7=>hk (by omega)))
theorem bnd_odd (a:Int):bnd .i64 a 1=a % 2:=by
  have h:(BitVec.ofInt 64 a &&& BitVec.ofInt 64 1).toNat=(a % 2).toNat:=by
    rw [BitVec.toNat_and,BitVec.toNat_ofInt,BitVec.toNat_ofInt]
    rw [show ((1:Int) % ((2 ^ 64:Nat):Int)).toNat=1 by decide,Nat.and_one_is_mod]
    have:((2 ^ 64:Nat):Int)=18446744073709551616:=by decide
    rw [this]
    omega
  unfold bnd
  rw [show IntKind.i64.bits=64 from rfl,h]
  have h1:0≤a % 2:=by omega
  have h2:a % 2<2:=by omega
  rw [show ((a % 2).toNat:Int)=a % 2 by omega]
  exact w64_id (by omega) (by omega)
def ringPl (k:Int) (r:Int):Int:=if k=1∨k=3 then 4 else if k=2 then 1 else if k=4 then 5 else if k=5 then (if r % 2=0 then 2 else 4) else 0
theorem prog_Ring_ok {k r:Int} {Q:Int→Prop} (hQ:Q (ringPl k r)):prog_Ring k r Q:=by
  unfold prog_Ring
  rw [bnd_odd]
  unfold ringPl at hQ
  refine ifP_eq (fun h=>by subst h; exact hQ) (fun h1=>ifP_eq (fun h=>by subst h; exact hQ) (fun h2=>ifP_eq (fun h=>?_) (fun h3=>ifP_eq (fun h=>by subst h; exact hQ) (fun h4=>ifP_eq (fun h=>by subst h; exact hQ) (fun h5=>?_)))))
  · subst h
    refine ifP_eq (fun h=>?_) (fun h=>?_)
    · rw [if_neg (by omega),if_neg (by omega),if_neg (by omega),if_pos rfl,if_pos h] at hQ; exact hQ
    · rw [if_neg (by omega),if_neg (by omega),if_neg (by omega),if_pos rfl,if_neg h] at hQ; exact hQ
  · rwa [if_neg (by omega),if_neg h1,if_neg h2,if_neg h3] at hQ
theorem bor_add {x v:Int} (h0:0≤x) (h1:x≤2147483647) (h2:0≤v) (h3:v<4096):bor .i64 (shl .i64 x 12) v=x*4096+v:=by
  have e1:shl .i64 x 12=x*4096:=by
    unfold shl
    rw [show ((2:Int) ^ (min (Int.toNat 12) IntKind.i64.bits))=4096 from by decide]
    exact w64_id (by omega) (by omega)
  obtain ⟨a,rfl⟩:∃ a:Nat,x=(a:Int):=⟨x.toNat,by omega⟩
  obtain ⟨b,rfl⟩:∃ b:Nat,v=(b:Int):=⟨v.toNat,by omega⟩
  rw [e1]
  unfold bor
  have h:(BitVec.ofInt 64 ((a:Int)*4096) ||| BitVec.ofInt 64 (b:Int)).toNat=a*4096+b:=by
    rw [BitVec.toNat_or,BitVec.toNat_ofInt,BitVec.toNat_ofInt]
    have hp:((2 ^ 64:Nat):Int)=18446744073709551616:=by decide
    rw [hp,show (((a:Int)*4096) % 18446744073709551616).toNat=2 ^ 12*a by omega,show (((b:Int)) % 18446744073709551616).toNat=b by omega]
    rw [←Nat.two_pow_add_eq_or_of_lt (by omega:b<2 ^ 12)]
    omega
  rw [show IntKind.i64.bits=64 from rfl,h]
  rw [show ((a*4096+b:Nat):Int)=(a:Int)*4096+b by omega]
  exact w64_id (by omega) (by omega)
def dv (l:List Int) (i:Int):Int:=if l=[] then 0 else at0 l (i % l.length)
theorem dv_in {l:List Int} (h:∀ d∈l,0≤d∧d≤2147483647) (i:Int):0≤dv l i∧dv l i≤2147483647:=by
  unfold dv
  split
  · omega
  · rename_i hne
    have hl:0<l.length:=List.length_pos_iff.2 hne
    exact h _ (at0_mem (by exact Int.emod_nonneg _ (by omega)) (Int.emod_lt_of_pos _ (by omega)))
def numS (p:Plan) (d v:Int):Int:=if 0≤d∧d≤8192∧0≤v∧v<p.N then dv p.Draws (d*p.N+v)*4096+v else 0
theorem mul_in {d n:Int} (h0:0≤d) (h1:d≤8192) (h2:0≤n) (h3:n≤4096):0≤d*n∧d*n≤33554432:=by
  refine ⟨Int.mul_nonneg h0 h2,?_⟩
  have:=Int.mul_le_mul h1 h3 h2 (by omega:(0:Int)≤8192)
  omega
theorem idx_dv {l:List Int} {i:Int} {K:Int→Prop} (h0:0≤i) (hl:0<l.length) (hk:K (dv l i)):nzP (l.length:Int) (idxP l (i.tmod (l.length:Int)) K):=by
  refine ⟨by omega,?_⟩
  rw [Int.tmod_eq_emod_of_nonneg h0]
  refine idxP_at0 (Int.emod_nonneg _ (by omega)) (Int.emod_lt_of_pos _ (by omega)) ?_
  unfold dv at hk
  rwa [if_neg (List.length_pos_iff.1 hl)] at hk
theorem prog_number_ok {p:Plan} {d v:Int} {Q:Int→Prop} (hn:0≤p.N∧p.N≤4096) (hd:∀ d∈p.Draws,0≤d∧d≤2147483647) (hQ:Q (numS p d v)):prog_number p d v Q:=by
  unfold prog_number prog_within
  unfold numS at hQ
  have hw:w64 (p.N - 1)=p.N - 1:=w64_id (by omega) (by omega)
  rw [hw]
  refine ifP_dec (fun h1=>ifP_not (fun h2=>?_) (fun h2=>?_)) (fun h1=>ifP_pos rfl (by rwa [if_neg (by omega)] at hQ))
  · have:=of_decide_eq_false h2; rwa [if_neg (by omega)] at hQ
  replace h2:=of_decide_eq_true h2
  refine ifP_dec (fun h3=>ifP_not (fun h4=>?_) (fun h4=>?_)) (fun h3=>ifP_pos rfl (by rwa [if_neg (by omega)] at hQ))
  · have:=of_decide_eq_false h4; rwa [if_neg (by omega)] at hQ
  replace h4:=of_decide_eq_true h4
  rw [if_pos (by omega)] at hQ
  have hm:=mul_in h1 h2 hn.1 hn.2
  refine ifP_dec (fun h5=>?_) (fun h5=>?_)
  · rw [w64_id (x:=d*p.N) (by omega) (by omega),w64_id (x:=d*p.N+v) (by omega) (by omega)]
    refine idx_dv (by omega) (by omega) ?_
    have:=dv_in hd (d*p.N+v)
    rwa [bor_add this.1 this.2 h3 (by omega)]
  · rw [bor_add (by omega) (by omega) h3 (by omega)]
    have:p.Draws=[]:=List.eq_nil_of_length_eq_zero (by omega)
    rwa [show dv p.Draws (d*p.N+v)=0 by rw [this]; rfl] at hQ
def canonS (es:List Edge):List Edge:=(finS (SC 1 (es.map kvE)) mkE).1
theorem narS_in (a:Wide):inI (narS a).1:=by
  unfold narS inI
  split
  · rw [w64_eq]; omega
  · simp
theorem canon_inI (es:List Edge):∀ e∈canonS es,inI e.W:=by
  intro e he
  unfold canonS finS at he
  split at he
  · obtain ⟨p,_,rfl⟩:=List.mem_map.1 he
    exact narS_in _
  · cases he
theorem canon_len {es:List Edge} (h:∀ e∈es,inI e.W):(canonS es).length≤es.length:=by
  have:=(SC_prop 1 (es.map kvE) (fun t ht=>by obtain ⟨e,he,rfl⟩:=List.mem_map.1 ht; exact h e he)).1
  unfold canonS finS
  split
  · simpa using this
  · simp
theorem edges_Canon_ok {g:Graph} {Q:Graph→Prop} (hl:g.Edges.length≤1000000) (hv:∀ e∈g.Edges,inI e.W) (hQ:Q ⟨g.N,canonS g.Edges⟩):edges_Canon g Q:=by
  unfold edges_Canon; exact combine_ok (by omega) hl hv hQ
theorem filt_take {α:Type} {p:α→Bool} {xs:List α} {i:Nat} (h:i<xs.length):(xs.take (i+1)).filter p=(xs.take i).filter p++(if p xs[i] then [xs[i]] else []):=by
  rw [List.take_succ_eq_append_getElem h,List.filter_append]
  congr 1
  simp [List.filter_cons]
def notLoop (e:Edge):Bool:=e.From != e.To
def simpG (g:Graph):Graph:=⟨g.N,canonS (g.Edges.filter notLoop)⟩
def oneE (e:Edge):Edge:=⟨e.From,e.To,1⟩
def plainG (g:Graph):Graph:=⟨g.N,canonS (g.Edges.map oneE)⟩
def turnG (g:Graph):Graph:=⟨g.N,canonS (g.Edges.map flipE)⟩
def bothG (g:Graph):Graph:=⟨g.N,canonS (g.Edges++(turnG g).Edges)⟩
theorem filt_len {α:Type} {p:α→Bool} {xs:List α} {i:Nat} (h:i≤xs.length):((xs.take i).filter p).length≤i:=by
  have:=List.length_filter_le p (xs.take i)
  rw [List.length_take] at this; omega
theorem simple_ok {g:Graph} {Q:Graph→Prop} (hl:g.Edges.length≤1000000) (hv:∀ e∈g.Edges,inI e.W) (hQ:Q (simpG g)):edges_Simple g Q:=by
  unfold edges_Simple edges_made_71c edges_Simple_1_100
  refine range_intro (fun (s:List Edge) i=>(s,i)) 0 g.Edges.length (by omega) (fun i s=>s=(g.Edges.take i).filter notLoop) (by omega) rfl (fun i s next _ hi hm hn=>?_) (fun s next hm=>?_)
  · subst hm
    have hL:=filt_len (p:=notLoop) (xs:=g.Edges) (Nat.le_of_lt hi)
    refine ifP_dec (fun _=>idxP_nat hi ?_) (fun h=>by omega)
    have e:=filt_take (p:=notLoop) hi
    refine ifP_ne (fun h=>appP_intro (by simp; omega) (hn _ ?_)) (fun h=>hn _ ?_)
    · rw [e,if_pos (by unfold notLoop; simpa using h)]
    · rw [e,if_neg (by unfold notLoop; simpa using h),List.append_nil]
  · subst hm
    refine ifP_dec (fun h=>by omega) (fun _=>?_)
    rw [List.take_length]
    exact edges_Canon_ok (Nat.le_trans (List.length_filter_le _ _) hl) (fun e he=>hv e (List.mem_filter.1 he).1) hQ
theorem plain_ok {g:Graph} {Q:Graph→Prop} (hl:g.Edges.length≤1000000) (hQ:Q (plainG g)):edges_Plain g Q:=by
  unfold edges_Plain edges_made_56f edges_Plain_1_3d5
  refine range_intro (fun (s:List Edge) i=>(s,i)) 0 g.Edges.length (by omega) (fun i s=>s=(g.Edges.take i).map oneE) (by omega) rfl (fun i s next _ hi hm hn=>?_) (fun s next hm=>?_)
  · subst hm
    refine ifP_dec (fun _=>idxP_nat hi (ifP_pos rfl (appP_intro (by simp; omega) (hn _ ?_)))) (fun h=>by omega)
    rw [take_map hi]; rfl
  · subst hm
    refine ifP_dec (fun h=>by omega) (fun _=>?_)
    rw [List.take_length]
    exact edges_Canon_ok (by simpa using hl) (fun e he=>by obtain ⟨x,_,rfl⟩:=List.mem_map.1 he; unfold inI oneE; simp) hQ
theorem eturn_ok {g:Graph} {Q:Graph→Prop} (hl:g.Edges.length≤1000000) (hv:∀ e∈g.Edges,inI e.W) (hQ:Q (turnG g)):edges_Turn g Q:=by
  unfold edges_Turn edges_made_7c5 edges_turned_87e
  refine range_intro (fun (s:List Edge) i=>(s,i)) 0 g.Edges.length (by omega) (fun i s=>s=(g.Edges.take i).map flipE) (by omega) rfl (fun i s next _ hi hm hn=>?_) (fun s next hm=>?_)
  · subst hm
    refine ifP_dec (fun _=>idxP_nat hi (ifP_pos rfl (appP_intro (by simp; omega) (hn _ ?_)))) (fun h=>by omega)
    rw [take_map hi]; rfl
  · subst hm
    refine ifP_dec (fun h=>by omega) (fun _=>?_)
    rw [List.take_length]
    exact edges_Canon_ok (by simpa using hl) (fun e he=>by obtain ⟨x,hx,rfl⟩:=List.mem_map.1 he; exact hv x hx) hQ
theorem turn_props {g:Graph} (hl:g.Edges.length≤500000) (hv:∀ e∈g.Edges,inI e.W):(turnG g).Edges.length≤g.Edges.length∧∀ e∈(turnG g).Edges,inI e.W:=by
  refine ⟨?_,canon_inI _⟩
  have:=canon_len (es:=g.Edges.map flipE) (fun e he=>by obtain ⟨x,hx,rfl⟩:=List.mem_map.1 he; exact hv x hx)
  simpa [turnG] using this
theorem concat_ok {xs ys:List Edge} {Q:List Edge→Prop} (hl:xs.length+ys.length≤1000000) (hQ:Q (xs++ys)):slices_Concat_api_Edge_api_Edge [xs,ys] Q:=by
  unfold slices_Concat_api_Edge_api_Edge slices_Grow_api_Edge_api_Edge
  refine range_intro (fun (s:Int) i=>(s,i)) 0 2 (by omega) (fun i s=>s=(((([xs,ys]:List (List Edge)).take i).map List.length).sum:Nat)) (by omega) (by simp) (fun i s next _ hi hm hn=>?_) (fun s next hm=>?_)
  · subst hm
    refine ifP_dec (fun _=>?_) (fun h=>by simp at h; omega)
    match i,hi,hn with
    | 0,_,hn=>
      refine idxP_intro (x:=xs) (by omega) rfl ?_
      have e:w64 (((([xs,ys]:List (List Edge)).take 0).map List.length).sum+(xs.length:Int))=xs.length:=by simp; exact w64_id (by omega) (by omega)
      rw [e]
      exact ifP_dec (fun h=>by omega) (fun _=>hn _ (by simp))
    | 1,_,hn=>
      refine idxP_intro (x:=ys) (by omega) rfl ?_
      have e:w64 (((([xs,ys]:List (List Edge)).take 1).map List.length).sum+(ys.length:Int))=xs.length+ys.length:=by simp; exact w64_id (by omega) (by omega)
      rw [e]
      exact ifP_dec (fun h=>by omega) (fun _=>hn _ (by simp))
  · subst hm
    refine ifP_dec (fun h=>by simp at h) (fun _=>?_)
    have e:((((([xs,ys]:List (List Edge)).take 2).map List.length).sum:Nat):Int)=xs.length+ys.length:=by simp
    rw [e,w64_id (x:=0 - 0) (by omega) (by omega),w64_id (x:=(xs.length:Int)+ys.length - (0 - 0)) (by omega) (by omega)]
    have hk:loopP (fun (s:(List Edge)×Int) (next273:((List Edge)×Int)→Prop)=>match s with | (s268,s272)=>ifP (decide (s272<((([xs,ys]:List (List Edge)).length:Nat):Int))) (idxP [xs,ys] s272 fun x281=>appP 24 s268 x281 fun _=>next273 ((s268++x281),w64 (s272+1))) (Q s268)) ([],0):=by
      refine range_intro (fun (s:List Edge) i=>(s,i)) 0 2 (by omega) (fun i s=>s=(([xs,ys]:List (List Edge)).take i).flatten) (by omega) (by simp) (fun i s next _ hi hm hn=>?_) (fun s next hm=>?_)
      · subst hm
        refine ifP_dec (fun _=>?_) (fun h=>by simp at h; omega)
        match i,hi,hn with
        | 0,_,hn=>exact idxP_intro (x:=xs) (by omega) rfl (appP_intro (by simp; omega) (hn _ (by simp)))
        | 1,_,hn=>exact idxP_intro (x:=ys) (by omega) rfl (appP_intro (by simp; omega) (hn _ (by simp)))
      · subst hm
        refine ifP_dec (fun h=>by simp at h) (fun _=>?_)
        simpa using hQ
    exact ifP_dec (fun h=>by omega) (fun _=>ifP_dec (fun h=>⟨by omega,by omega,hk⟩) (fun h=>hk))
theorem both_ok {g:Graph} {Q:Graph→Prop} (hl:g.Edges.length≤100000) (hv:∀ e∈g.Edges,inI e.W) (hQ:Q (bothG g)):edges_Both g Q:=by
  unfold edges_Both
  have ht:=turn_props (by omega) hv
  refine eturn_ok (by omega) hv (concat_ok (by omega) (edges_Canon_ok (by simp; omega) (fun e he=>?_) hQ))
  rcases List.mem_append.1 he with h | h
  · exact hv e h
  · exact ht.2 e h
def matS (p:Plan) (g:Graph):Rows×Int:=
  if rightPl p≠0 then (zR,rightPl p) else if g.N≠p.N then (zR,4) else if rightG g≠0 then (zR,rightG g)
  else graphS (if p.Kind=5 then plainG (bothG (simpG g)) else if p.Kind=3 then plainG (bothG g) else if p.Kind=1 then plainG g else g)
theorem both_props {g:Graph} (hl:g.Edges.length≤65536) (hv:∀ e∈g.Edges,inI e.W):(bothG g).Edges.length≤200000∧∀ e∈(bothG g).Edges,inI e.W:=by
  have ht:=turn_props (by omega) hv
  refine ⟨?_,canon_inI _⟩
  have:=canon_len (es:=g.Edges++(turnG g).Edges) (fun e he=>by
    rcases List.mem_append.1 he with h | h
    · exact hv e h
    · exact ht.2 e h)
  rw [List.length_append] at this
  show (canonS _).length≤_
  omega
theorem simp_props {g:Graph} (hl:g.Edges.length≤65536) (hv:∀ e∈g.Edges,inI e.W):(simpG g).Edges.length≤65536∧∀ e∈(simpG g).Edges,inI e.W:=by
  refine ⟨?_,canon_inI _⟩
  have h1:=canon_len (es:=g.Edges.filter notLoop) (fun e he=>hv e (List.mem_filter.1 he).1)
  have h2:=List.length_filter_le notLoop g.Edges
  show (canonS _).length≤_
  omega
theorem prog_Matrix_ok {p:Plan} {g:Graph} {Q:Rows×Int→Prop} (hQ:Q (matS p g)):prog_Matrix p g Q:=by
  unfold prog_Matrix
  unfold matS at hQ
  refine prog_Right_ok (ifP_ne (fun h=>by rwa [if_pos h] at hQ) (fun h=>?_))
  rw [if_neg (fun h'=>h' h)] at hQ
  refine ifP_ne (fun h=>by rwa [if_pos h] at hQ) (fun h=>?_)
  rw [if_neg (fun h'=>h' h)] at hQ
  refine graph_right_ok (ifP_ne (fun h=>by rwa [if_pos h] at hQ) (fun h=>?_))
  rw [if_neg (fun h'=>h' h)] at hQ
  obtain ⟨_,_,hl,_,hw⟩:=rightG_zero h
  have hv:∀ e∈g.Edges,inI e.W:=fun e he=>by have:=hw e he; unfold wOk at this; unfold inI; omega
  have hs:=simp_props hl hv
  have hb:=both_props hl hv
  have hsb:=both_props hs.1 hs.2
  refine ifP_eq (fun h5=>?_) (fun h5=>?_)
  · rw [if_pos h5] at hQ
    exact simple_ok (by omega) hv (both_ok (by omega) hs.2 (plain_ok (by omega) (graph_ok hQ)))
  rw [if_neg h5] at hQ
  refine ifP_eq (fun h3=>?_) (fun h3=>?_)
  · rw [if_pos h3] at hQ
    exact both_ok (by omega) hv (plain_ok (by omega) (graph_ok hQ))
  rw [if_neg h3] at hQ
  refine ifP_eq (fun h1=>?_) (fun h1=>?_)
  · rw [if_pos h1] at hQ
    exact plain_ok (by omega) (graph_ok hQ)
  rw [if_neg h1] at hQ
  exact graph_ok hQ
end Go.Proofs.YtccpfgdefibdnaaGreat
