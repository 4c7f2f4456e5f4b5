import Derived.Test.YtccpfgdefibdnaaGreatBaseA
namespace Go.Proofs.YtccpfgdefibdnaaGreat
open Go Go.Fw
set_option linter.unusedVariables false
set_option linter.unusedSimpArgs false
def okF (f:List Int):Prop:=∀ x∈f,0≤x∧x<18446744073709551616
def hasF (f:List Int) (i:Int):Bool:=decide (0≤i) && (at0 f (i / 64)).toNat.testBit (i % 64).toNat
theorem at0_over {f:List Int} {i:Int} (h:(f.length:Int)≤i):at0 f i=0:=by
  unfold at0
  rw [List.getD_eq_getElem?_getD,List.getElem?_eq_none (by omega)]; rfl
theorem okF_at {f:List Int} (h:okF f) (i:Int):0≤at0 f i∧at0 f i<18446744073709551616:=by
  by_cases e:i.toNat<f.length
  · have:at0 f i=f[i.toNat]:=by simp [at0,List.getD_eq_getElem?_getD,e]
    rw [this]; exact h _ (List.getElem_mem e)
  · have:at0 f i=0:=by unfold at0; rw [List.getD_eq_getElem?_getD,List.getElem?_eq_none (by omega)]; rfl
    rw [this]; omega
theorem hasF_over {f:List Int} {i:Int} (h:64*(f.length:Int)≤i):hasF f i=false:=by
  unfold hasF; rw [at0_over (by omega)]; simp
theorem hasF_neg {f:List Int} {i:Int} (h:i<0):hasF f i=false:=by
  unfold hasF; simp [show ¬0≤i by omega]
theorem hasF_in {f:List Int} {i:Int} (h:hasF f i=true):0≤i∧i<64*(f.length:Int):=by
  rcases Int.lt_or_le i 0 with h' | h'
  · rw [hasF_neg h'] at h; cases h
  · rcases Int.lt_or_le i (64*(f.length:Int)) with h2 | h2
    · exact ⟨h',h2⟩
    · rw [hasF_over h2] at h; cases h
theorem shr6 (i:Int):shr .i64 i 6=i / 64:=by
  unfold shr
  rw [Int.fdiv_eq_ediv_of_nonneg _ (by decide)]; rfl
theorem within_f_ok {f:List Int} {i:Int} {Q:Bool→Prop} (hQ:Q (decide (0≤i∧i / 64<f.length))):flags_within f i Q:=by
  unfold flags_within
  rw [shr6]
  refine ifP_dec (fun h=>?_) (fun h=>?_)
  · simpa [h] using hQ
  · simpa [h] using hQ
theorem pw_int (k:Nat):(2:Int) ^ k=((2 ^ k:Nat):Int):=by rw [Int.natCast_pow]; rfl
theorem pw_lt {k:Nat} (hk:k<64):(2:Nat) ^ k<18446744073709551616:=Nat.pow_lt_pow_right (n:=64) (a:=2) (by omega) hk
theorem one_shl {k:Nat} (hk:k<64):shl .u64 1 k=((2 ^ k:Nat):Int):=by
  rw [shl_u _ (by omega),Int.one_mul,pw_int]
  have hp:=pw_lt hk
  generalize 2 ^ k=p at *
  omega
theorem and_pw (x k:Nat):x &&& 2 ^ k=if x.testBit k then 2 ^ k else 0:=by
  apply Nat.eq_of_testBit_eq
  intro j
  rw [Nat.testBit_and,Nat.testBit_two_pow]
  by_cases e:k=j
  · subst e
    cases h:x.testBit k
    · simp
    · simp [Nat.testBit_two_pow]
  · cases h:x.testBit k
    · simp [e]
    · simp [e,Nat.testBit_two_pow]
theorem bit_ok {i:Int} {Q:Int→Prop} (h0:0≤i) (h1:i<18446744073709551616) (hQ:Q ((2 ^ (i % 64).toNat:Nat):Int)):flags_bit i Q:=by
  unfold flags_bit
  have e:bnd .u64 (IntKind.wrap .u64 i) 63=(((i % 64).toNat:Nat):Int):=by
    rw [u64_eq,show i % 18446744073709551616=i by omega,bnd_nat h0 h1 (by omega) (by omega)]
    congr 1
    rw [show Int.toNat 63=2 ^ 6 - 1 from rfl,Nat.and_two_pow_sub_one_eq_mod]
    omega
  rw [e]
  refine ⟨by omega,?_⟩
  rw [one_shl (by omega)]; exact hQ
theorem flags_Has_ok {f:List Int} {i:Int} {Q:Bool→Prop} (hf:okF f) (hi:inI i) (hQ:Q (hasF f i)):flags_Has f i Q:=by
  unfold flags_Has
  unfold inI at hi
  refine within_f_ok ⟨fun h=>?_,fun h=>?_⟩
  · have h:=of_decide_eq_true h
    rw [shr6]
    have hx:=okF_at hf (i / 64)
    refine idxP_at0 (by omega) h.2 (bit_ok h.1 (by omega) ?_)
    have hp:=pw_lt (k:=(i % 64).toNat) (by omega)
    have e:hasF f i=(at0 f (i / 64)).toNat.testBit (i % 64).toNat:=by unfold hasF; simp [h.1]
    rw [e] at hQ
    have hpos:0<(2:Nat) ^ (i % 64).toNat:=Nat.pow_pos (by omega)
    have ha:=and_pw (at0 f (i / 64)).toNat (i % 64).toNat
    generalize (i % 64).toNat=k at *
    rw [bnd_nat hx.1 hx.2 (Int.natCast_nonneg _) (by generalize 2 ^ k=p at *; omega),Int.toNat_natCast,ha]
    cases hb:(at0 f (i / 64)).toNat.testBit k with
    | false=>rw [hb] at hQ; simpa using hQ
    | true=>
      rw [hb] at hQ
      have e2:(((if (true:Bool)=true then 2 ^ k else 0:Nat):Int) != 0)=true:=by
        rw [if_pos rfl,bne_iff_ne]
        generalize 2 ^ k=p at *; omega
      rw [e2]; exact hQ
  · have h:=of_decide_eq_false h
    have e:hasF f i=false:=by
      rcases Int.lt_or_le i 0 with h' | h'
      · exact hasF_neg h'
      · exact hasF_over (by omega)
    rw [e] at hQ; exact hQ
def wordsS (n:Int):Nat:=((if 4096<(if n<0 then 0 else n) then 4096 else (if n<0 then 0 else n))+63).toNat / 64
def newF (n:Int):List Int:=List.replicate (wordsS n) 0
theorem words_le (n:Int):wordsS n≤64:=by unfold wordsS; split <;> split <;> omega
theorem words_in {n i:Int} (h0:0≤i) (hn:i<n) (h:i<4096):i / 64<wordsS n:=by unfold wordsS; split <;> split <;> omega
theorem words_out {n i:Int} (hn:i / 64<wordsS n):i<4096:=by unfold wordsS at hn; split at hn <;> split at hn <;> omega
theorem newF_ok (n:Int):okF (newF n):=by intro x hx; rw [newF,List.mem_replicate] at hx; omega
theorem newF_has (n i:Int):hasF (newF n) i=false:=by
  have:∀ k,at0 (newF n) k=0:=by
    intro k; unfold at0 newF
    rw [List.getD_eq_getElem?_getD,List.getElem?_replicate]; split <;> rfl
  unfold hasF; rw [this]; simp
theorem flags_words_ok {n:Int} {Q:Int→Prop} (hQ:Q (wordsS n)):flags_words n Q:=by
  unfold flags_words
  rw [shr6]
  have e:w64 ((if 4096<(if 0 > n then 0 else n) then 4096 else (if 0 > n then 0 else n))+63) / 64=(wordsS n:Int):=by
    unfold wordsS
    rw [w64_eq]
    split <;> split <;> omega
  rw [e]; exact hQ
theorem flags_New_ok {n:Int} {Q:List Int→Prop} (hQ:Q (newF n)):flags_New n Q:=by
  unfold flags_New
  refine flags_words_ok ⟨by omega,by have:=words_le n; omega,?_⟩
  simpa [newF] using hQ
def putF (f:List Int) (i:Int):List Int:=if 0≤i∧i / 64<f.length then f.set (i / 64).toNat (((at0 f (i / 64)).toNat ||| 2 ^ (i % 64).toNat:Nat):Int) else f
theorem putF_len (f:List Int) (i:Int):(putF f i).length=f.length:=by unfold putF; split <;> simp
theorem putF_ok {f:List Int} (h:okF f) (i:Int):okF (putF f i):=by
  unfold putF
  split
  · intro x hx
    rcases List.mem_or_eq_of_mem_set hx with hx | hx
    · exact h x hx
    · have hb:=okF_at h (i / 64)
      have hp:(2:Nat) ^ (i % 64).toNat<2 ^ 64:=Nat.pow_lt_pow_right (by omega) (by omega)
      have:=Nat.or_lt_two_pow (x:=(at0 f (i / 64)).toNat) (y:=2 ^ (i % 64).toNat) (n:=64) (by omega) hp
      omega
  · exact h
theorem putF_has {f:List Int} (i j:Int):hasF (putF f i) j=if j=i∧0≤i∧i / 64<f.length then true else hasF f j:=by
  unfold putF
  by_cases hc:0≤i∧i / 64<f.length
  · rw [if_pos hc]
    rcases Int.lt_or_le j 0 with hj | hj
    · rw [hasF_neg hj,if_neg (by omega),hasF_neg hj]
    · have hset:∀ v:Int,at0 (f.set (i / 64).toNat v) (j / 64)=if j / 64=i / 64 then v else at0 f (j / 64):=by
        intro v
        unfold at0
        rw [List.getD_eq_getElem?_getD,List.getD_eq_getElem?_getD]
        by_cases e:j / 64=i / 64
        · rw [if_pos e,e,List.getElem?_set_self (by omega)]; rfl
        · rw [if_neg e,List.getElem?_set_ne (by omega)]
      unfold hasF
      rw [hset]
      by_cases e:j / 64=i / 64
      · rw [if_pos e,Int.toNat_natCast,Nat.testBit_or,Nat.testBit_two_pow,e]
        by_cases e2:j=i
        · subst e2; simp [hc,hj]
        · have:¬(i % 64).toNat=(j % 64).toNat:=by omega
          simp [e2,this]
      · rw [if_neg e,if_neg (by intro h; exact e (by rw [h.1]))]
  · rw [if_neg hc,if_neg (fun h=>hc h.2)]
def ofF (n:Int) (l:List Int):List Int:=l.foldl (fun f i=>if 0≤i∧i<n∧i<4096 then putF f i else f) (newF n)
theorem ofF_snoc (n:Int) (l:List Int) (i:Int):ofF n (l++[i])=if 0≤i∧i<n∧i<4096 then putF (ofF n l) i else ofF n l:=by simp [ofF]
theorem ofF_prop (n:Int) (l:List Int):okF (ofF n l)∧(ofF n l).length=wordsS n∧∀ j,hasF (ofF n l) j=decide (j∈l∧0≤j∧j<n∧j<4096):=by
  suffices H:∀ k,k≤l.length→okF (ofF n (l.take k))∧(ofF n (l.take k)).length=wordsS n∧∀ j,hasF (ofF n (l.take k)) j=decide (j∈l.take k∧0≤j∧j<n∧j<4096) by
    have:=H l.length (by omega); rwa [List.take_length] at this
  intro k
  induction k with
  | zero=>intro _; exact ⟨newF_ok n,by simp [ofF,newF],fun j=>by simp [ofF,newF_has]⟩
  | succ k ih=>
    intro hk
    obtain ⟨h1,h2,h3⟩:=ih (by omega)
    rw [List.take_succ_eq_append_getElem (by omega),ofF_snoc]
    split
    · rename_i hc
      refine ⟨putF_ok h1 _,by rw [putF_len,h2],fun j=>?_⟩
      rw [putF_has,h2,h3]
      have hw:=words_in hc.1 hc.2.1 hc.2.2
      by_cases e:j=l[k]
      · subst e
        rw [if_pos ⟨rfl,hc.1,hw⟩]
        exact (decide_eq_true ⟨List.mem_append.2 (.inr (by simp)),hc⟩).symm
      · rw [if_neg (fun h=>e h.1)]
        refine decide_eq_decide.2 ?_
        rw [List.mem_append,List.mem_singleton]
        simp only [e,or_false]
    · rename_i hc
      refine ⟨h1,h2,fun j=>?_⟩
      rw [h3]
      refine decide_eq_decide.2 ?_
      rw [List.mem_append,List.mem_singleton]
      by_cases e:j=l[k]
      · subst e
        constructor
        · rintro ⟨q1,q2⟩; exact ⟨.inl q1,q2⟩
        · rintro ⟨_,q2⟩; exact absurd q2 hc
      · simp only [e,or_false]
theorem flags_Of_ok {n:Int} {l:List Int} {Q:List Int→Prop} (hl:l.length≤1000000000) (hi:∀ x∈l,inI x) (hQ:Q (ofF n l)):flags_Of n l Q:=by
  unfold flags_Of
  refine flags_New_ok (range_intro (fun (s:List Int) i=>(s,i)) 0 l.length (by omega) (fun k s=>s=ofF n (l.take k)) (by omega) (by simp [ofF]) (fun k s next _ hk hs hn=>?_) (fun s next hs=>?_))
  · subst hs
    have hsn:=ofF_snoc n (l.take k) l[k]
    rw [←List.take_succ_eq_append_getElem hk] at hsn
    obtain ⟨p1,p2,_⟩:=ofF_prop n (l.take k)
    have hik:=hi _ (List.getElem_mem hk)
    unfold inI at hik
    refine ifP_dec (fun _=>idxP_nat hk ?_) (fun h=>by omega)
    refine join_intro (fun b=>b=decide (l[k]<n∧0≤l[k]∧l[k] / 64<wordsS n)) ?_ ?_
    · rintro b rfl
      refine ifP_dec (fun h=>?_) (fun h=>hn _ ?_)
      · rw [shr6]
        refine idxP_at0 (by omega) (by rw [p2]; omega) (bit_ok h.2.1 (by omega) (idxP_at0 (by omega) (by rw [p2]; omega) (hn _ ?_)))
        have hb:=okF_at p1 (l[k] / 64)
        have hp:=pw_lt (k:=(l[k] % 64).toNat) (by omega)
        rw [hsn,if_pos ⟨h.2.1,h.1,words_out h.2.2⟩,putF,if_pos ⟨h.2.1,by rw [p2]; exact h.2.2⟩,bor_nat hb.1 hb.2 (Int.natCast_nonneg _) (by generalize 2 ^ (l[k] % 64).toNat=p at *; omega),Int.toNat_natCast]
      · rw [hsn,if_neg]
        intro h'
        exact h ⟨h'.2.1,h'.1,words_in h'.1 h'.2.1 h'.2.2⟩
    · intro k' hk'
      refine ifP_dec (fun h=>within_f_ok (hk' _ ?_)) (fun h=>hk' _ ?_)
      · rw [p2]; simp [h]
      · simp [h]
  · subst hs
    refine ifP_dec (fun h=>by omega) (fun _=>?_)
    rw [List.take_length]; exact hQ
def listF (f:List Int):List Int:=((List.range (64*f.length)).filter fun i:Nat=>hasF f i).map fun i:Nat=>(i:Int)
theorem listF_mem {f:List Int} {i:Int}:i∈listF f↔hasF f i=true:=by
  unfold listF
  simp only [List.mem_map,List.mem_filter,List.mem_range]
  constructor
  · rintro ⟨k,⟨_,h⟩,rfl⟩; exact h
  · intro h
    obtain ⟨h1,h2⟩:=hasF_in h
    exact ⟨i.toNat,⟨by omega,by rw [Int.toNat_of_nonneg h1]; exact h⟩,by omega⟩
theorem listF_incr (f:List Int):(listF f).Pairwise (· < ·):=by
  unfold listF
  rw [List.pairwise_map]
  exact List.Pairwise.imp (fun h=>by omega) (List.Pairwise.filter _ List.pairwise_lt_range)
def rightF (f:List Int) (n:Int):Prop:=(0≤n∧n≤4096)∧f.length=wordsS n∧∀ i∈listF f,i<n
instance (f:List Int) (n:Int):Decidable (rightF f n):=by unfold rightF; infer_instance
theorem ofF_right {n:Int} (h:0≤n∧n≤4096) (l:List Int):rightF (ofF n l) n:=by
  obtain ⟨h1,h2,h3⟩:=ofF_prop n l
  refine ⟨h,h2,fun i hi=>?_⟩
  rw [listF_mem,h3] at hi
  exact (of_decide_eq_true hi).2.2.1
def IncI (l:List Item):Prop:=l.Pairwise fun a b=>a.At<b.At
instance (l:List Item):Decidable (IncI l):=by unfold IncI; infer_instance
structure VecP (v:Vec):Prop where
  n0:0≤v.N
  n1:v.N≤4096
  inc:IncI v.Items
  ins:∀ x∈v.Items,0≤x.At∧x.At<v.N
instance (v:Vec):Decidable (VecP v):=decidable_of_iff (0≤v.N∧v.N≤4096∧IncI v.Items∧∀ x∈v.Items,0≤x.At∧x.At<v.N) ⟨fun ⟨a,b,c,d⟩=>⟨a,b,c,d⟩,fun ⟨a,b,c,d⟩=>⟨a,b,c,d⟩⟩
def zV:Vec:=⟨0,[]⟩
theorem zV_ok:VecP zV:=⟨by decide,by decide,.nil,by simp [zV]⟩
def sureV (v:Vec):Vec:=if VecP v then v else zV
theorem sureV_ok (v:Vec):VecP (sureV v):=by unfold sureV; split <;> first | assumption | exact zV_ok
theorem sureV_id {v:Vec} (h:VecP v):sureV v=v:=if_pos h
theorem inc_adj {l:List Item} (h:∀ (i:Nat) (hi:i+1<l.length),l[i].At<l[i+1].At):IncI l:=by
  unfold IncI
  rw [List.pairwise_iff_getElem]
  intro i j hi hj hij
  obtain ⟨d,rfl⟩:∃ d,j=i+1+d:=⟨j - i - 1,by omega⟩
  induction d with
  | zero=>exact h i (by omega)
  | succ d ih=>have h1:=ih (by omega) (by omega); have h2:=h (i+1+d) (by omega); exact Int.lt_trans h1 h2
theorem IncI.at {l:List Item} (h:IncI l) {i j:Nat} (hj:j<l.length) (hij:i<j):(l[i]'(by omega)).At<l[j].At:=by
  unfold IncI at h; rw [List.pairwise_iff_getElem] at h; exact h i j (by omega) hj hij
theorem incI_len {l:List Item} (h:IncI l) {n:Int} (hn:0≤n) (hi:∀ x∈l,0≤x.At∧x.At<n):(l.length:Int)≤n:=by
  have:∀ k (hk:k<l.length),(k:Int)≤l[k].At:=by
    intro k
    induction k with
    | zero=>intro hk; exact (hi _ (List.getElem_mem hk)).1
    | succ k ih=>intro hk; have:=ih (by omega); have:=h.at hk (i:=k) (by omega); omega
  rcases Nat.eq_zero_or_pos l.length with e | e
  · rw [e]; exact hn
  · have h1:=this (l.length - 1) (by omega)
    have h2:=hi _ (List.getElem_mem (show l.length - 1<l.length by omega))
    omega
theorem VecP.len {v:Vec} (h:VecP v):v.Items.length≤4096:=by have:=incI_len h.inc h.n0 h.ins; have:=h.n1; omega
theorem spvec_within_ok {x y:Int} {Q:Bool→Prop} (hQ:Q (decide (0≤x∧x≤y))):spvec_within x y Q:=by
  unfold spvec_within
  refine ifP_dec (fun h=>?_) (fun h=>?_)
  · simpa [h] using hQ
  · simpa [h] using hQ
theorem spvec_Right_ok {v:Vec} {Q:Bool→Prop} (hl:v.Items.length≤1000000000) (hQ:Q (decide (VecP v))):spvec_Right v Q:=by
  unfold spvec_Right
  have hno:¬VecP v→Q false:=fun h=>by rwa [decide_eq_false h] at hQ
  have hyes:VecP v→Q true:=fun h=>by rwa [decide_eq_true h] at hQ
  refine spvec_within_ok (ifP_not (fun h=>hno fun h'=>of_decide_eq_false h ⟨h'.n0,h'.n1⟩) (fun h=>?_))
  have h:=of_decide_eq_true h
  unfold slices_ContainsFunc_api_Item_api_Item_cd0 slices_IndexFunc_api_Item_api_Item_a3e
  refine range_intro (s0:=(-1:Int)) (fun (s:Int) i=>(s,i)) 0 v.Items.length (by omega) (fun k s=>(∀ (i:Nat) (hi:i+1<v.Items.length),i+1<k→v.Items[i].At<v.Items[i+1].At)∧(∀ i (hi:i<v.Items.length),i<k→0≤v.Items[i].At∧v.Items[i].At<v.N)∧(k=0→s = -1)∧(∀ (hk:0<k) (hl:k≤v.Items.length),s=(v.Items[k - 1]'(by omega)).At)) (by omega) ⟨fun i _ h=>by omega,fun i _ h=>by omega,fun _=>rfl,fun h=>by omega⟩ (fun k s next _ hk hs hn=>?_) (fun s next hs=>?_)
  · obtain ⟨h1,h2,h3,h4⟩:=hs
    refine ifP_dec (fun _=>idxP_nat hk ?_) (fun h=>by omega)
    unfold spvec_Right_1_81a
    have bad:¬VecP v→(fun r84:Bool×Int=>ifP r84.1 ((fun r17:Int×Int=>(fun r26:Bool×Int=>Q (!r26.1)) (decide (0≤r17.1),r17.2)) ((k:Int),r84.2)) (next (r84.2,w64 ((k:Int)+1)))) (true,v.Items[k].At):=by
      intro hn'
      refine ifP_pos rfl ?_
      simp only [show decide ((0:Int)≤(k:Int))=true by simp]
      exact hno hn'
    refine ifP_dec (fun h5=>bad fun hv=>?_) (fun h5=>?_)
    · rcases Nat.eq_zero_or_pos k with e | e
      · subst e
        rw [h3 rfl] at h5
        have:=(hv.ins _ (List.getElem_mem hk)).1; omega
      · rw [h4 e (by omega)] at h5
        have:=hv.inc.at hk (i:=k - 1) (by omega); omega
    · refine ⟨fun h6=>?_,fun h6=>hn _ ⟨fun i hi hik=>?_,fun i hi hik=>?_,fun h=>by omega,fun _ _=>by simp⟩⟩
      · have h6:=of_decide_eq_true h6
        simp only [show decide ((0:Int)≤(k:Int))=true by simp]
        exact hno fun hv=>by have:=(hv.ins _ (List.getElem_mem hk)).2; omega
      · by_cases e:i+1=k
        · subst e; rw [h4 (by omega) (by omega)] at h5; simp only [Nat.add_sub_cancel] at h5; omega
        · exact h1 i hi (by omega)
      · have h6:=of_decide_eq_false h6
        by_cases e:i=k
        · subst e
          refine ⟨?_,by omega⟩
          rcases Nat.eq_zero_or_pos i with e | e
          · rw [h3 e] at h5; omega
          · rw [h4 e (by omega)] at h5
            have:=(h2 (i - 1) (by omega) (by omega)).1; omega
        · exact h2 i hi (by omega)
  · obtain ⟨h1,h2,h3,h4⟩:=hs
    refine ifP_dec (fun h=>by omega) (fun _=>?_)
    simp only [show decide ((0:Int) ≤ -1)=false by decide]
    refine hyes ⟨h.1,h.2,inc_adj fun i hi=>h1 i hi (by omega),fun x hx=>?_⟩
    obtain ⟨i,hi,rfl⟩:=List.mem_iff_getElem.1 hx
    exact h2 i hi hi
theorem spvec_sure_ok {v:Vec} {Q:Vec→Prop} (hl:v.Items.length≤1000000000) (hQ:Q (sureV v)):spvec_sure v Q:=by
  unfold spvec_sure
  unfold sureV at hQ
  refine spvec_Right_ok hl (ifP_dec (fun h=>?_) (fun h=>?_))
  · rwa [if_pos h] at hQ
  · rwa [if_neg h] at hQ
theorem map_loop {α β:Type} {xs:List α} {f:α→β} {body:List β×Int→(List β×Int→Prop)→Prop} (hl:xs.length≤1000000000)
    (hs:∀ (i:Nat) (s:List β) (next:List β×Int→Prop) (hi:i<xs.length),s.length=i→(next (s++[f xs[i]],w64 ((i:Int)+1)))→body (s,(i:Int)) next)
    (he:∀ (next:List β×Int→Prop) s,s=xs.map f→body (s,(xs.length:Int)) next):loopP body ([],0):=by
  refine range_intro (fun (s:List β) i=>(s,i)) 0 xs.length (by omega) (fun k s=>s=(xs.take k).map f) (by omega) (by simp) (fun k s next _ hk hs' hn=>?_) (fun s next hs'=>?_)
  · refine hs k s next hk (by subst hs'; simp; omega) (hn _ ?_)
    subst hs'
    rw [List.take_succ_eq_append_getElem hk,List.map_append]; rfl
  · rw [List.take_length] at hs'
    exact he next s hs'
def placesS (v:Vec):List Int:=(sureV v).Items.map (·.At)
theorem spvec_Places_ok {v:Vec} {Q:List Int→Prop} (hl:v.Items.length≤1000000000) (hQ:Q (placesS v)):spvec_Places v Q:=by
  unfold spvec_Places
  have hvl:=(sureV_ok v).len
  refine spvec_sure_ok hl (map_loop (xs:=(sureV v).Items) (f:=(·.At)) (by omega) (fun i s next hi hs hn=>ifP_dec (fun _=>idxP_nat hi (appP_intro (by simp; omega) hn)) (fun h=>by omega)) (fun next s hs=>ifP_dec (fun h=>by omega) (fun _=>?_)))
  subst hs; exact hQ
def kvI (x:Item):Int×Int:=(x.At,x.Val)
def lkI (l:List Item) (i:Int):Option Int:=mget i (l.map kvI)
theorem lkI_cons (s:Item) (l:List Item) (i:Int):lkI (s :: l) i=if i=s.At then some s.Val else lkI l i:=rfl
theorem lkI_none:∀ {l:List Item} {i:Int},(∀ s∈l,s.At≠i)→lkI l i=none
  | [],_,_=>rfl
  | s :: l,i,h=>by rw [lkI_cons,if_neg (fun e=>h s (by simp) e.symm)]; exact lkI_none fun x hx=>h x (by simp [hx])
theorem lkI_mem:∀ {l:List Item} {i:Int} {v:Int},lkI l i=some v→⟨i,v⟩∈l
  | s :: l,i,v,h=>by
    rw [lkI_cons] at h
    split at h
    · rename_i e; cases h; subst e; simp
    · exact List.mem_cons_of_mem _ (lkI_mem h)
theorem mem_lkI:∀ {l:List Item} (h:IncI l) {s:Item},s∈l→lkI l s.At=some s.Val
  | x :: l,h,s,hs=>by
    unfold IncI at h
    rw [List.pairwise_cons] at h
    rw [lkI_cons]
    rcases List.mem_cons.1 hs with e | hs
    · subst e; rw [if_pos rfl]
    · have:=h.1 s hs
      rw [if_neg (by omega)]; exact mem_lkI h.2 hs
theorem lkI_append:∀ (l:List Item) (m:List Item) (i:Int),lkI (l++m) i=match lkI l i with | some v=>some v | none=>lkI m i
  | [],m,i=>rfl
  | s :: l,m,i=>by
    rw [List.cons_append,lkI_cons,lkI_cons]
    split
    · rfl
    · exact lkI_append l m i
def getO (o:Option Int):Int×Bool:=match o with | some v=>(v,true) | none=>(0,false)
def valsS (n:Nat) (l:List Item):List Int:=(List.range n).map fun i:Nat=>(lkI l i).getD 0
def denS (v:Vec):Dense:=⟨v.N,ofF v.N (v.Items.map (·.At)),valsS v.N.toNat v.Items⟩
theorem valsS_nil (n:Nat):valsS n []=List.replicate n 0:=by
  unfold valsS
  apply List.ext_getElem
  · simp
  · intro i h1 h2; simp [lkI,mget]
theorem valsS_snoc {n:Nat} {l:List Item} {x:Item} (h:∀ s∈l,s.At<x.At) (h0:0≤x.At):valsS n (l++[x])=(valsS n l).set x.At.toNat x.Val:=by
  unfold valsS
  rw [rm_set]
  refine List.map_congr_left fun i _=>?_
  rw [lkI_append,lkI_cons]
  by_cases e:i=x.At.toNat
  · subst e
    rw [if_pos rfl,lkI_none (fun s hs=>by have:=h s hs; omega)]
    simp only
    rw [if_pos (by omega)]; rfl
  · rw [if_neg e,if_neg (by omega)]
    split
    · rename_i v hv; rw [hv]
    · rename_i hv; rw [hv]; rfl
theorem IncI.before {l:List Item} (h:IncI l) {k:Nat} (hk:k<l.length):∀ s∈l.take k,s.At<l[k].At:=by
  intro s hs
  obtain ⟨j,hj,rfl⟩:=List.mem_iff_getElem.1 hs
  rw [List.length_take] at hj
  rw [List.getElem_take]
  exact h.at hk (by omega)
theorem at0_valsS {n:Nat} {l:List Item} {i:Int} (h0:0≤i) (h1:i<n):at0 (valsS n l) i=(lkI l i).getD 0:=by
  unfold valsS at0
  rw [List.getD_eq_getElem?_getD,List.getElem?_map,List.getElem?_range (by omega)]
  simp only [Option.map_some,Option.getD_some]
  rw [Int.toNat_of_nonneg h0]
theorem devec_New_ok {n:Int} {Q:Dense→Prop} (h:0≤n∧n≤4096) (hQ:Q ⟨n,newF n,List.replicate n.toNat 0⟩):devec_New n Q:=by
  unfold devec_New
  exact ifP_dec (fun h'=>by omega) (fun _=>ifP_dec (fun h'=>by omega) (fun _=>⟨by omega,by omega,flags_New_ok hQ⟩))
theorem devec_Of_ok {v:Vec} {Q:Dense→Prop} (hl:v.Items.length≤1000000000) (hQ:Q (denS (sureV v))):devec_Of v Q:=by
  unfold devec_Of
  refine spvec_Right_ok hl (ifP_not (fun h=>?_) (fun h=>?_))
  · have h:=of_decide_eq_false h
    rw [sureV,if_neg h] at hQ
    exact devec_New_ok ⟨by omega,by omega⟩ hQ
  · have hv:=of_decide_eq_true h
    rw [sureV_id hv] at hQ
    have hul:=hv.len
    have:=hv.n0; have:=hv.n1
    refine devec_New_ok ⟨by omega,by omega⟩ (range_intro (s0:=List.replicate v.N.toNat (0:Int)) (fun (s:List Int) i=>(s,i)) 0 v.Items.length (by omega) (fun k s=>s=valsS v.N.toNat (v.Items.take k)) (by omega) (by simp [valsS_nil]) (fun k s next _ hk hs hn=>?_) (fun s next hs=>?_))
    · have hin:=hv.ins _ (List.getElem_mem hk)
      refine ifP_dec (fun _=>idxP_nat hk (idxP_at0 (by omega) (by subst hs; simp [valsS]; omega) (hn _ ?_))) (fun h=>by omega)
      rw [List.take_succ_eq_append_getElem hk,valsS_snoc (hv.inc.before hk) hin.1,hs]
    · rw [List.take_length] at hs
      subst hs
      refine ifP_dec (fun h=>by omega) (fun _=>spvec_Places_ok hl (flags_Of_ok ?_ (fun x hx=>?_) ?_))
      · rw [placesS,sureV_id hv]; simp; omega
      · rw [placesS,sureV_id hv] at hx
        obtain ⟨y,hy,rfl⟩:=List.mem_map.1 hx
        have:=hv.ins y hy; unfold inI; omega
      · rw [placesS,sureV_id hv]; exact hQ
theorem den_has {v:Vec} (h:VecP v) (i:Int):hasF (denS v).Has i=(lkI v.Items i).isSome:=by
  have hn:=h.n1
  have e:=(ofF_prop v.N (v.Items.map (·.At))).2.2 i
  show hasF (ofF v.N (v.Items.map (·.At))) i=_
  rw [e]
  cases hlk:lkI v.Items i with
  | none=>
    refine decide_eq_false fun h'=>?_
    obtain ⟨x,hx,e⟩:=List.mem_map.1 h'.1
    have:=mem_lkI h.inc hx
    rw [e,hlk] at this; cases this
  | some y=>
    have hm:=lkI_mem hlk
    have:=h.ins _ hm
    simp only at this
    exact decide_eq_true ⟨List.mem_map.2 ⟨_,hm,rfl⟩,this.1,this.2,by omega⟩
theorem den_okF (v:Vec):okF (denS v).Has:=(ofF_prop _ _).1
theorem den_len (v:Vec):(denS v).Has.length≤64:=by rw [show (denS v).Has.length=wordsS v.N from (ofF_prop _ _).2.1]; exact words_le _
def askF (f:List Int) (o:Bool) (i:Int):Bool:=hasF f i != o
def stepW (r:Int) (A B:Int→Option Int) (acc:Option Wide) (k:Int):Option Wide:=match A k,B k with | some a,some x=>cmb r acc (some (mulW r a x)) | _,_=>acc
def rowW (r:Int) (n:Nat) (A B:Int→Option Int):Option Wide:=(List.range n).foldl (fun acc (k:Nat)=>stepW r A B acc k) none
def sumsS (r:Int) (m n:Nat) (f:List Int) (o:Bool) (A:Int→Int→Option Int) (B:Int→Option Int):List Sum:=
  (List.range m).filterMap fun i:Nat=>if askF f o i then (rowW r n (A i) B).map fun w=>(⟨i,w⟩:Sum) else none
theorem sumsS_succ (r:Int) (m n:Nat) (f:List Int) (o:Bool) (A:Int→Int→Option Int) (B:Int→Option Int) :
    sumsS r (m+1) n f o A B=sumsS r m n f o A B++(if askF f o m then (rowW r n (A m) B).map fun w=>(⟨m,w⟩:Sum) else none).toList:=by
  unfold sumsS
  rw [List.range_succ,List.filterMap_append]
  congr 1
theorem stepW_okW {r:Int} {A B:Int→Option Int} {acc:Option Wide} (h:∀ w,acc=some w→okW w) (k:Int):∀ w,stepW r A B acc k=some w→okW w:=by
  intro w hw
  unfold stepW at hw
  split at hw
  · cases acc with
    | none=>cases hw; exact mulW_okW _ _ _
    | some b=>cases hw; exact addW_okW (h b rfl) (mulW_okW _ _ _)
  · exact h w hw
theorem rowW_okW (r:Int) (n:Nat) (A B:Int→Option Int):∀ w,rowW r n A B=some w→okW w:=by
  unfold rowW
  induction n with
  | zero=>intro w hw; cases hw
  | succ n ih=>rw [List.range_succ,List.foldl_append]; exact stepW_okW ih n
theorem sumsS_prop (r:Int) (n:Nat) (f:List Int) (o:Bool) (A:Int→Int→Option Int) (B:Int→Option Int):∀ m:Nat,
    Rise (sumsS r m n f o A B)∧(sumsS r m n f o A B).length≤m∧okS (sumsS r m n f o A B)∧(∀ s∈sumsS r m n f o A B,0≤s.At∧s.At<m)∧∀ i:Int,lk (sumsS r m n f o A B) i=if 0≤i∧i<m∧askF f o i=true then rowW r n (A i) B else none:=by
  intro m
  induction m with
  | zero=>
    refine ⟨.nil,by simp [sumsS],by simp [sumsS,okS],by simp [sumsS],fun i=>?_⟩
    rw [if_neg (by omega)]; rfl
  | succ m ih=>
    obtain ⟨h1,h2,h3,h4,h5⟩:=ih
    rw [sumsS_succ]
    by_cases ha:askF f o m=true
    · rw [if_pos ha]
      cases hw:rowW r n (A m) B with
      | none=>
        simp only [Option.map_none,Option.toList_none,List.append_nil]
        refine ⟨h1,by omega,h3,fun s hs=>by have:=h4 s hs; omega,fun i=>?_⟩
        rw [h5]
        by_cases e:i=m
        · subst e; rw [if_neg (by omega),hw]; simp
        · by_cases hi:0≤i∧i<m∧askF f o i=true
          · rw [if_pos hi,if_pos ⟨hi.1,by omega,hi.2.2⟩]
          · rw [if_neg hi,if_neg (fun h=>hi ⟨h.1,by omega,h.2.2⟩)]
      | some w=>
        simp only [Option.map_some,Option.toList_some]
        refine ⟨List.pairwise_append.2 ⟨h1,by simp,fun a ha' b hb=>?_⟩,by simp; omega,fun s hs=>?_,fun s hs=>?_,fun i=>?_⟩
        · simp only [List.mem_singleton] at hb; subst hb; exact (h4 a ha').2
        · rcases List.mem_append.1 hs with hs | hs
          · exact h3 s hs
          · simp only [List.mem_singleton] at hs; subst hs; exact rowW_okW r n _ _ w hw
        · rcases List.mem_append.1 hs with hs | hs
          · have:=h4 s hs; omega
          · simp only [List.mem_singleton] at hs; subst hs; simp only; omega
        · rw [lk_append,h5,lk_cons,lk_nil]
          by_cases e:i=m
          · subst e
            have c1:0≤(m:Int)∧(m:Int)<((m+1:Nat):Int)∧askF f o m=true:=⟨by omega,by omega,ha⟩
            rw [if_neg (fun h=>by omega),if_pos c1,hw]; simp
          · rw [if_neg e]
            by_cases hi:0≤i∧i<m∧askF f o i=true
            · rw [if_pos hi,if_pos ⟨hi.1,by omega,hi.2.2⟩]; split <;> simp_all
            · rw [if_neg hi,if_neg (fun h=>hi ⟨h.1,by omega,h.2.2⟩)]
    · rw [if_neg ha]
      simp only [Option.toList_none,List.append_nil]
      refine ⟨h1,by omega,h3,fun s hs=>by have:=h4 s hs; omega,fun i=>?_⟩
      rw [h5]
      by_cases e:i=m
      · subst e; rw [if_neg (by omega),if_neg (fun h=>ha h.2.2)]
      · by_cases hi:0≤i∧i<m∧askF f o i=true
        · rw [if_pos hi,if_pos ⟨hi.1,by omega,hi.2.2⟩]
        · rw [if_neg hi,if_neg (fun h=>hi ⟨h.1,by omega,h.2.2⟩)]
theorem foldl_same {β γ:Type} {f g:β→γ→β}:∀ {l:List γ} {a:β},(∀ acc k,k∈l→f acc k=g acc k)→l.foldl f a=l.foldl g a
  | [],_,_=>rfl
  | x :: l,a,h=>by rw [List.foldl_cons,List.foldl_cons,h a x (by simp)]; exact foldl_same fun acc k hk=>h acc k (by simp [hk])
theorem inc_fold {β:Type} {step:β→Int→Int→β} {a:β}:∀ {n:Nat} {l:List Item},IncI l→(∀ x∈l,0≤x.At∧x.At<n) →
    l.foldl (fun acc x=>step acc x.At x.Val) a=(List.range n).foldl (fun acc (k:Nat)=>match lkI l k with | some v=>step acc k v | none=>acc) a
  | 0,l,h,hi=>by
    cases l with
    | nil=>rfl
    | cons x l=>have:=hi x (by simp); omega
  | n+1,l,h,hi=>by
    rw [List.range_succ,List.foldl_append]
    simp only [List.foldl_cons,List.foldl_nil]
    have hc:l=[]∨∃ p y,l=p++[y]:=by
      rcases List.eq_nil_or_concat l with h | ⟨p,y,h⟩
      · exact .inl h
      · exact .inr ⟨p,y,by rw [h,List.concat_eq_append]⟩
    have old:∀ {l:List Item},IncI l→(∀ x∈l,0≤x.At∧x.At<n)→lkI l n=none:=fun _ hi=>lkI_none fun s hs=>by have:=hi s hs; omega
    rcases hc with e | ⟨p,y,e⟩
    · subst e
      rw [←inc_fold (n:=n) (l:=[]) h (by simp)]; rfl
    · subst e
      have hp:IncI p:=(List.pairwise_append.1 h).1
      have hlt:∀ x∈p,x.At<y.At:=fun x hx=>(List.pairwise_append.1 h).2.2 x hx y (by simp)
      by_cases ey:y.At=n
      · have hpin:∀ x∈p,0≤x.At∧x.At<n:=fun x hx=>⟨(hi x (by simp [hx])).1,by have:=hlt x hx; omega⟩
        have e1:lkI (p++[y]) n=some y.Val:=by rw [lkI_append,old hp hpin,lkI_cons,if_pos ey.symm]
        rw [e1,List.foldl_append,inc_fold hp hpin]
        simp only [List.foldl_cons,List.foldl_nil,ey]
        congr 1
        refine foldl_same fun acc k hk=>?_
        have hk:=List.mem_range.1 hk
        have:lkI (p++[y]) k=lkI p k:=by rw [lkI_append,lkI_cons,if_neg (by omega)]; cases lkI p k <;> rfl
        rw [this]
      · have hin:∀ x∈p++[y],0≤x.At∧x.At<n:=by
          intro x hx
          have h1:=hi x hx
          refine ⟨h1.1,?_⟩
          have hy:=hi y (by simp)
          rcases List.mem_append.1 hx with hx | hx
          · have:=hlt x hx; omega
          · simp only [List.mem_singleton] at hx; subst hx; omega
        rw [old h hin,inc_fold h hin]
theorem colI_inc {T:List Triple} (h:Srt T) (k:Int):IncI (colI T k):=by
  unfold colI IncI
  rw [List.pairwise_map]
  have h1:(T.filter fun t=>decide (t.Row=k)).Pairwise fun a b=>ltK (key a) (key b):=List.Pairwise.filter _ h
  refine List.Pairwise.imp_of_mem (fun {a b} ha hb hab=>?_) h1
  have ha:=of_decide_eq_true (List.mem_filter.1 ha).2
  have hb:=of_decide_eq_true (List.mem_filter.1 hb).2
  unfold ltK key at hab
  simp only [itS] at hab ⊢; omega
theorem colI_mem {T:List Triple} {k:Int} {x:Item}:x∈colI T k↔(⟨k,x.At,x.Val⟩:Triple)∈T:=by
  unfold colI
  simp only [List.mem_map,List.mem_filter,decide_eq_true_eq]
  constructor
  · rintro ⟨t,⟨ht,e⟩,rfl⟩; subst e; exact ht
  · intro h; exact ⟨_,⟨h,rfl⟩,rfl⟩
def stepI (r:Int) (B:Int→Option Int) (acc:Option Wide) (y:Item):Option Wide:=match B y.At with | some x=>cmb r acc (some (mulW r y.Val x)) | none=>acc
theorem stepI_okW {r:Int} {B:Int→Option Int} {acc:Option Wide} (h:∀ w,acc=some w→okW w) (y:Item):∀ w,stepI r B acc y=some w→okW w:=by
  intro w hw
  unfold stepI at hw
  split at hw
  · cases acc with
    | none=>cases hw; exact mulW_okW _ _ _
    | some b=>cases hw; exact addW_okW (h b rfl) (mulW_okW _ _ _)
  · exact h w hw
theorem foldI_okW (r:Int) (B:Int→Option Int):∀ (l:List Item) (acc:Option Wide),(∀ w,acc=some w→okW w)→∀ w,l.foldl (stepI r B) acc=some w→okW w
  | [],acc,h=>h
  | y :: l,acc,h=>foldI_okW r B l _ (stepI_okW h y)
theorem row_fold {r:Int} {B:Int→Option Int} {n:Nat} {l:List Item} (h:IncI l) (hi:∀ x∈l,0≤x.At∧x.At<n):l.foldl (stepI r B) none=rowW r n (lkI l) B:=by
  have:=inc_fold (step:=fun acc k a=>match B k with | some x=>cmb r acc (some (mulW r a x)) | none=>acc) (a:=none) h hi
  refine this.trans (foldl_same fun acc k _=>?_)
  unfold stepW
  cases lkI l (k:Int) <;> cases B (k:Int) <;> rfl
def rowI (ts:List Triple) (i:Int):List Item:=(segS ts i.toNat).map itS
theorem rowI_colI (ts:List Triple) {i:Int} (h:0≤i):rowI ts i=colI ts i:=by
  unfold rowI colI segS
  rw [Int.toNat_of_nonneg h]
def sumsR (r rows cols:Int) (ts:List Triple) (v:Vec) (f:List Int) (o:Bool):List Sum×Int:=
  if ¬(1≤r∧r≤5) then ([],8) else if v.N≠cols then ([],4) else (sumsS r rows.toNat cols.toNat f o (fun i=>lkI (rowI ts i)) (lkI v.Items),0)
def zS (r:Int):Int:=if r=1∨r=3∨r=4 then 4611686018427387904 else 0
theorem ring_Zero_ok {r:Int} {Q:Int→Prop} (hQ:Q (zS r)):ring_Zero r Q:=by
  unfold ring_Zero; unfold zS at hQ
  refine ifP_eq (fun h=>?_) (fun h=>ifP_eq (fun h3=>?_) (fun h3=>ifP_eq (fun h4=>?_) (fun h4=>?_)))
  · rwa [if_pos (.inl h)] at hQ
  · rwa [if_pos (.inr (.inl h3))] at hQ
  · rwa [if_pos (.inr (.inr h4))] at hQ
  · rwa [if_neg (by omega)] at hQ
def nzI (r:Int) (s:Sum):Option Item:=if (narS s.Val).1≠zS r then some ⟨s.At,(narS s.Val).1⟩ else none
def doneS (r n:Int) (l:List Sum):Vec×Int:=
  if ¬(1≤r∧r≤5) then (zV,8) else if ¬(0≤n∧n≤4096)∨∃ s∈l,¬(0≤s.At∧s.At<n) then (zV,3) else if ¬Rise l then (zV,6)
  else if ∃ s∈l,(narS s.Val).2=false then (zV,12) else (⟨n,l.filterMap (nzI r)⟩,0)
theorem out_ok {n:Int} {l:List Sum} {Q:Bool→Prop} (hl:l.length≤1000000000) (hQ:Q (decide (∃ s∈l,¬(0≤s.At∧s.At<n)))):slices_ContainsFunc_api_Sum_api_Sum_927 n l Q:=by
  unfold slices_ContainsFunc_api_Sum_api_Sum_927 slices_IndexFunc_api_Sum_api_Sum_a5e
  refine scan_intro l.length (by omega) (fun k=>∀ i (hi:i<l.length),i<k→0≤l[i].At∧l[i].At<n) (fun i hi h=>by omega) (fun k next hk hR hn=>?_) (fun next hR=>?_)
  · refine ifP_dec (fun _=>idxP_nat hk ?_) (fun h=>by omega)
    unfold pull_Done_1_ac1
    have bad:¬(0≤l[k].At∧l[k].At<n)→(fun r10:Int=>Q (decide (0≤r10))) (k:Int):=by
      intro hb
      rw [decide_eq_true ⟨_,List.getElem_mem hk,hb⟩] at hQ
      simpa using hQ
    refine ifP_dec (fun h=>ifP_pos rfl (bad (by omega))) (fun h=>⟨fun h'=>bad (by have:=of_decide_eq_true h'; omega),fun h'=>hn fun i hi hik=>?_⟩)
    have h':=of_decide_eq_false h'
    by_cases e:i=k
    · subst e; omega
    · exact hR i hi (by omega)
  · refine ifP_dec (fun h=>by omega) (fun _=>?_)
    have:¬ ∃ s∈l,¬(0≤s.At∧s.At<n):=by
      rintro ⟨s,hs,hn⟩
      obtain ⟨i,hi,rfl⟩:=List.mem_iff_getElem.1 hs
      exact hn (hR i hi hi)
    rw [decide_eq_false this] at hQ
    simpa using hQ
theorem pull_Done_ok {r n:Int} {l:List Sum} {Q:Vec×Int→Prop} (hl:l.length≤1000000000) (ho:okS l) (hQ:Q (doneS r n l)):pull_Done r n l Q:=by
  unfold pull_Done
  unfold doneS at hQ
  refine ring_Is_ok (ifP_not (fun h=>?_) (fun h=>?_))
  · rw [if_pos (of_decide_eq_false h)] at hQ; exact hQ
  have hr:=of_decide_eq_true h
  rw [if_neg (by omega)] at hQ
  refine ifP_dec (fun h=>?_) (fun h0=>ifP_dec (fun h=>?_) (fun h1=>out_ok hl ⟨fun h=>?_,fun h=>?_⟩))
  · rw [if_pos (.inl (by omega))] at hQ; exact hQ
  · rw [if_pos (.inl (by omega))] at hQ; exact hQ
  · rw [if_pos (.inr (of_decide_eq_true h))] at hQ; exact hQ
  have hin:=of_decide_eq_false h
  rw [if_neg (by
    rintro (h' | h')
    · omega
    · exact hin h')] at hQ
  refine scan_intro l.length (by omega) (fun n=>∀ (i:Nat) (hi:i+1<l.length),i+1<n→l[i].At<l[i+1].At) (fun i hi h=>by omega) (fun i next hi hR hn=>?_) (fun next hR=>?_)
  · refine ifP_dec (fun _=>ifP_dec (fun h=>?_) (fun h=>?_)) (fun h=>by omega)
    · have e:w64 ((i:Int) - 1)=((i - 1:Nat):Int):=by rw [w64_id (by omega) (by omega)]; omega
      rw [e]
      refine idxP_nat (by omega) (idxP_nat hi (ifP_dec (fun h'=>?_) (fun h'=>hn fun j hj hjn=>?_)))
      · have:¬Rise l:=fun hr=>by have:=hr.adj hi (i:=i - 1) (by omega); omega
        rw [if_pos this] at hQ; exact hQ
      · by_cases e':j+1=i
        · subst e'; simp only [Nat.add_sub_cancel] at h'; omega
        · exact hR j hj (by omega)
    · exact hn fun j hj hjn=>by omega
  · refine ifP_dec (fun h=>by omega) (fun _=>?_)
    rw [if_neg (fun hn=>hn (rise_adj fun i hi=>hR i hi (by omega)))] at hQ
    refine range_intro (s0:=([]:List Item)) (fun (s:List Item) i=>(s,i)) 0 l.length (by omega) (fun k s=>s=(l.take k).filterMap (nzI r)∧∀ i (hi:i<l.length),i<k→(narS l[i].Val).2=true) (by omega) ⟨by simp,fun i hi h=>by omega⟩ (fun k s next' _ hk hs hn=>?_) (fun s next' hs=>?_)
    · obtain ⟨hs,hall⟩:=hs
      have hsl:s.length≤k:=by
        subst hs
        have:=List.length_filterMap_le (nzI r) (l.take k)
        rw [List.length_take] at this; omega
      refine ifP_dec (fun _=>idxP_nat hk (narrow_ok (ho _ (List.getElem_mem hk)) (ifP_not (fun hb=>?_) (fun hb=>ring_Zero_ok (ifP_ne (fun hne=>appP_intro (by simp; omega) (hn _ ⟨?_,?_⟩)) (fun he=>hn _ ⟨?_,?_⟩)))))) (fun h=>by omega)
      · rw [if_pos ⟨_,List.getElem_mem hk,hb⟩] at hQ; exact hQ
      · rw [List.take_succ_eq_append_getElem hk,List.filterMap_append,←hs]
        simp [nzI,hne]
      · intro i hi hik
        by_cases e:i=k
        · subst e; exact hb
        · exact hall i hi (by omega)
      · rw [List.take_succ_eq_append_getElem hk,List.filterMap_append,←hs]
        simp [nzI,he]
      · intro i hi hik
        by_cases e:i=k
        · subst e; exact hb
        · exact hall i hi (by omega)
    · obtain ⟨hs,hall⟩:=hs
      rw [List.take_length] at hs
      subst hs
      refine ifP_dec (fun h=>by omega) (fun _=>?_)
      rw [if_neg] at hQ
      · exact hQ
      · rintro ⟨s,hs,hb⟩
        obtain ⟨i,hi,rfl⟩:=List.mem_iff_getElem.1 hs
        rw [hall i hi hi] at hb; cases hb
end Go.Proofs.YtccpfgdefibdnaaGreat
