import Derived.Test.YtaefnmlbnkmahaaGreatBaseA
namespace Go.Proofs.YtaefnmlbnkmahaaGreat
open Go Go.Fw
set_option linter.unusedVariables false
set_option linter.unusedSimpArgs false
def okF (f:List Int):Prop:=∀ x∈f,0≤x∧x<18446744073709551616
def hasF (f:List Int) (i:Int):Bool:=decide (0≤i) && (at0 f (i / 64)).toNat.testBit (i % 64).toNat
theorem at0_over {f:List Int} {i:Int} (h:(f.length:Int)≤i):at0 f i=0:=by
  unfold at0
  rw [List.getD_eq_getElem?_getD,List.getElem?_eq_none (by omega)]; rfl
theorem okF_at {f:List Int} (h:okF f) (i:Int):0≤at0 f i∧at0 f i<18446744073709551616:=by
  by_cases e:i.toNat<f.length
  · have:at0 f i=f[i.toNat]:=by simp [at0,List.getD_eq_getElem?_getD,e]
    rw [this]; exact h _ (List.getElem_mem e)
  · have:at0 f i=0:=by unfold at0; rw [List.getD_eq_getElem?_getD,List.getElem?_eq_none (by omega)]; rfl
    rw [this]; omega
theorem hasF_over {f:List Int} {i:Int} (h:64*(f.length:Int)≤i):hasF f i=false:=by
  unfold hasF; rw [at0_over (by omega)]; simp
theorem hasF_neg {f:List Int} {i:Int} (h:i<0):hasF f i=false:=by
  unfold hasF; simp [show ¬0≤i by omega]
theorem hasF_in {f:List Int} {i:Int} (h:hasF f i=true):0≤i∧i<64*(f.length:Int):=by
  rcases Int.lt_or_le i 0 with h' | h'
  · rw [hasF_neg h'] at h; cases h
  · rcases Int.lt_or_le i (64*(f.length:Int)) with h2 | h2
    · exact ⟨h',h2⟩
    · rw [hasF_over h2] at h; cases h
theorem shr6 (i:Int):shr .i64 i 6=i / 64:=by
  unfold shr
  rw [Int.fdiv_eq_ediv_of_nonneg _ (by decide)]; rfl
theorem within_f_ok {f:List Int} {i:Int} {Q:Bool→Prop} (hQ:Q (decide (0≤i∧i / 64<f.length))):flags_within f i Q:=by
  unfold flags_within
  rw [shr6]
  refine ifP_dec (fun h=>?_) (fun h=>?_)
  · simpa [h] using hQ
  · simpa [h] using hQ
theorem pw_int (k:Nat):(2:Int) ^ k=((2 ^ k:Nat):Int):=by rw [Int.natCast_pow]; rfl
theorem pw_lt {k:Nat} (hk:k<64):(2:Nat) ^ k<18446744073709551616:=Nat.pow_lt_pow_right (n:=64) (a:=2) (by omega) hk
theorem one_shl {k:Nat} (hk:k<64):shl .u64 1 k=((2 ^ k:Nat):Int):=by
  rw [shl_u _ (by omega),Int.one_mul,pw_int]
  have hp:=pw_lt hk
  generalize 2 ^ k=p at *
  omega
theorem and_pw (x k:Nat):x &&& 2 ^ k=if x.testBit k then 2 ^ k else 0:=by
  apply Nat.eq_of_testBit_eq
  intro j
  rw [Nat.testBit_and,Nat.testBit_two_pow]
  by_cases e:k=j
  · subst e
    cases h:x.testBit k
    · simp
    · simp [Nat.testBit_two_pow]
  · cases h:x.testBit k
    · simp [e]
    · simp [e,Nat.testBit_two_pow]
theorem bit_ok {i:Int} {Q:Int→Prop} (h0:0≤i) (h1:i<18446744073709551616) (hQ:Q ((2 ^ (i % 64).toNat:Nat):Int)):flags_bit i Q:=by
  unfold flags_bit
  have e:bnd .u64 (IntKind.wrap .u64 i) 63=(((i % 64).toNat:Nat):Int):=by
    rw [u64_eq,show i % 18446744073709551616=i by omega,bnd_nat h0 h1 (by omega) (by omega)]
    congr 1
    rw [show Int.toNat 63=2 ^ 6 - 1 from rfl,Nat.and_two_pow_sub_one_eq_mod]
    omega
  rw [e]
  refine ⟨by omega,?_⟩
  rw [one_shl (by omega)]; exact hQ
theorem flags_Has_ok {f:List Int} {i:Int} {Q:Bool→Prop} (hf:okF f) (hi:inI i) (hQ:Q (hasF f i)):flags_Has f i Q:=by
  unfold flags_Has
  unfold inI at hi
  refine within_f_ok ⟨fun h=>?_,fun h=>?_⟩
  · have h:=of_decide_eq_true h
    rw [shr6]
    have hx:=okF_at hf (i / 64)
    refine idxP_at0 (by omega) h.2 (bit_ok h.1 (by omega) ?_)
    have hp:=pw_lt (k:=(i % 64).toNat) (by omega)
    have e:hasF f i=(at0 f (i / 64)).toNat.testBit (i % 64).toNat:=by unfold hasF; simp [h.1]
    rw [e] at hQ
    have hpos:0<(2:Nat) ^ (i % 64).toNat:=Nat.pow_pos (by omega)
    have ha:=and_pw (at0 f (i / 64)).toNat (i % 64).toNat
    generalize (i % 64).toNat=k at *
    rw [bnd_nat hx.1 hx.2 (Int.natCast_nonneg _) (by generalize 2 ^ k=p at *; omega),Int.toNat_natCast,ha]
    cases hb:(at0 f (i / 64)).toNat.testBit k with
    | false=>rw [hb] at hQ; simpa using hQ
    | true=>
      rw [hb] at hQ
      have e2:(((if (true:Bool)=true then 2 ^ k else 0:Nat):Int) != 0)=true:=by
        rw [if_pos rfl,bne_iff_ne]
        generalize 2 ^ k=p at *; omega
      rw [e2]; exact hQ
  · have h:=of_decide_eq_false h
    have e:hasF f i=false:=by
      rcases Int.lt_or_le i 0 with h' | h'
      · exact hasF_neg h'
      · exact hasF_over (by omega)
    rw [e] at hQ; exact hQ
theorem tdiv64 {i:Int} (h:0≤i):i.tdiv 64=i / 64∧i.tmod 64=i % 64:=⟨Int.tdiv_eq_ediv_of_nonneg h,Int.tmod_eq_emod_of_nonneg h⟩
theorem ref03_Has_ok {f:List Int} {i:Int} {Q:Bool→Prop} (hf:okF f) (hi:inI i) (hQ:Q (hasF f i)):ref03_Has f i Q:=by
  unfold ref03_Has
  unfold inI at hi
  refine ifP_dec (fun h=>?_) (fun h=>?_)
  · obtain ⟨e1,e2⟩:=tdiv64 h
    rw [e1,e2,w64_id (by omega) (by omega),u64_eq,show i % 64 % 18446744073709551616=(((i % 64).toNat:Nat):Int) by omega]
    refine ifP_dec (fun h2=>?_) (fun h2=>?_)
    · have hx:=okF_at hf (i / 64)
      refine idxP_at0 (by omega) h2 ⟨by omega,?_⟩
      rw [shr_u _ (by omega)]
      have e3:at0 f (i / 64) / 2 ^ (i % 64).toNat=(((at0 f (i / 64)).toNat / 2 ^ (i % 64).toNat:Nat):Int):=by
        rw [Int.natCast_ediv,Int.natCast_pow,Int.toNat_of_nonneg hx.1]; rfl
      have hlt:(at0 f (i / 64)).toNat / 2 ^ (i % 64).toNat≤(at0 f (i / 64)).toNat:=Nat.div_le_self _ _
      have e:hasF f i=decide ((at0 f (i / 64)).toNat / 2 ^ (i % 64).toNat % 2=1):=by unfold hasF; rw [Nat.testBit_eq_decide_div_mod_eq]; simp [h]
      rw [e] at hQ
      rw [e3]
      generalize (at0 f (i / 64)).toNat / 2 ^ (i % 64).toNat=m at *
      rw [bnd_nat (by omega) (by omega) (by omega) (by omega),Int.toNat_natCast,show Int.toNat 1=1 from rfl,Nat.and_one_is_mod]
      have e4:(((m % 2:Nat):Int)==1)=decide (m % 2=1):=by
        generalize m % 2=m
        by_cases hm:m=1
        · subst hm; rfl
        · rw [decide_eq_false hm]; exact beq_eq_false_iff_ne.2 (by omega)
      rw [e4]; exact hQ
    · rw [hasF_over (by omega)] at hQ; exact hQ
  · rw [hasF_neg (by omega)] at hQ; exact hQ
def wordsS (n:Int):Nat:=((if 4096<(if n<0 then 0 else n) then 4096 else (if n<0 then 0 else n))+63).toNat / 64
def newF (n:Int):List Int:=List.replicate (wordsS n) 0
theorem words_le (n:Int):wordsS n≤64:=by unfold wordsS; split <;> split <;> omega
theorem words_in {n i:Int} (h0:0≤i) (hn:i<n) (h:i<4096):i / 64<wordsS n:=by unfold wordsS; split <;> split <;> omega
theorem words_out {n i:Int} (hn:i / 64<wordsS n):i<4096:=by unfold wordsS at hn; split at hn <;> split at hn <;> omega
theorem newF_ok (n:Int):okF (newF n):=by intro x hx; rw [newF,List.mem_replicate] at hx; omega
theorem newF_has (n i:Int):hasF (newF n) i=false:=by
  have:∀ k,at0 (newF n) k=0:=by
    intro k; unfold at0 newF
    rw [List.getD_eq_getElem?_getD,List.getElem?_replicate]; split <;> rfl
  unfold hasF; rw [this]; simp
theorem flags_words_ok {n:Int} {Q:Int→Prop} (hQ:Q (wordsS n)):flags_words n Q:=by
  unfold flags_words
  rw [shr6]
  have e:w64 ((if 4096<(if 0 > n then 0 else n) then 4096 else (if 0 > n then 0 else n))+63) / 64=(wordsS n:Int):=by
    unfold wordsS
    rw [w64_eq]
    split <;> split <;> omega
  rw [e]; exact hQ
theorem ref03_words_ok {n:Int} {Q:Int→Prop} (hQ:Q (wordsS n)):ref03_words n Q:=by
  unfold ref03_words
  refine join_intro (fun t=>t=if 4096<n then 4096 else n) ?_ ?_
  · rintro t ht
    refine ifP_dec (fun h=>?_) (fun h=>?_)
    · have hn1:n<1:=by
        subst ht
        split at h
        · omega
        · exact h
      have:wordsS n=0:=by
        unfold wordsS
        repeat' split
        all_goals omega
      rw [this] at hQ; exact hQ
    · have:w64 ((w64 (t+63)).tdiv 64)=(wordsS n:Int):=by
        unfold wordsS
        have ht0:1≤t∧t≤4096:=by subst ht; split at h <;> split <;> omega
        rw [w64_id (x:=t+63) (by omega) (by omega),Int.tdiv_eq_ediv_of_nonneg (by omega),w64_id (by omega) (by omega)]
        subst ht; split <;> split <;> omega
      rw [this]; exact hQ
  · intro k hk
    exact ifP_dec (fun h=>hk _ (by rw [if_pos h])) (fun h=>hk _ (by rw [if_neg h]))
theorem flags_New_ok {n:Int} {Q:List Int→Prop} (hQ:Q (newF n)):flags_New n Q:=by
  unfold flags_New
  refine flags_words_ok ⟨by omega,by have:=words_le n; omega,?_⟩
  simpa [newF] using hQ
theorem ref03_New_ok {n:Int} {Q:List Int→Prop} (hQ:Q (newF n)):ref03_New n Q:=by
  unfold ref03_New
  refine ref03_words_ok ⟨by omega,by have:=words_le n; omega,?_⟩
  simpa [newF] using hQ
def putF (f:List Int) (i:Int):List Int:=if 0≤i∧i / 64<f.length then f.set (i / 64).toNat (((at0 f (i / 64)).toNat ||| 2 ^ (i % 64).toNat:Nat):Int) else f
theorem putF_len (f:List Int) (i:Int):(putF f i).length=f.length:=by unfold putF; split <;> simp
theorem putF_ok {f:List Int} (h:okF f) (i:Int):okF (putF f i):=by
  unfold putF
  split
  · intro x hx
    rcases List.mem_or_eq_of_mem_set hx with hx | hx
    · exact h x hx
    · have hb:=okF_at h (i / 64)
      have hp:(2:Nat) ^ (i % 64).toNat<2 ^ 64:=Nat.pow_lt_pow_right (by omega) (by omega)
      have:=Nat.or_lt_two_pow (x:=(at0 f (i / 64)).toNat) (y:=2 ^ (i % 64).toNat) (n:=64) (by omega) hp
      omega
  · exact h
theorem putF_has {f:List Int} (i j:Int):hasF (putF f i) j=if j=i∧0≤i∧i / 64<f.length then true else hasF f j:=by
  unfold putF
  by_cases hc:0≤i∧i / 64<f.length
  · rw [if_pos hc]
    rcases Int.lt_or_le j 0 with hj | hj
    · rw [hasF_neg hj,if_neg (by omega),hasF_neg hj]
    · have hset:∀ v:Int,at0 (f.set (i / 64).toNat v) (j / 64)=if j / 64=i / 64 then v else at0 f (j / 64):=by
        intro v
        unfold at0
        rw [List.getD_eq_getElem?_getD,List.getD_eq_getElem?_getD]
        by_cases e:j / 64=i / 64
        · rw [if_pos e,e,List.getElem?_set_self (by omega)]; rfl
        · rw [if_neg e,List.getElem?_set_ne (by omega)]
      unfold hasF
      rw [hset]
      by_cases e:j / 64=i / 64
      · rw [if_pos e,Int.toNat_natCast,Nat.testBit_or,Nat.testBit_two_pow,e]
        by_cases e2:j=i
        · subst e2; simp [hc,hj]
        · have:¬(i % 64).toNat=(j % 64).toNat:=by omega
          simp [e2,this]
      · rw [if_neg e,if_neg (by intro h; exact e (by rw [h.1]))]
  · rw [if_neg hc,if_neg (fun h=>hc h.2)]
theorem ref03_Put_ok {f:List Int} {i:Int} {Q:List Int→Prop} (hf:okF f) (hl:f.length≤1000000) (hi:inI i) (hQ:Q (putF f i)):ref03_Put f i Q:=by
  unfold ref03_Put ref03_set
  unfold inI at hi
  refine appP_intro (by simp; omega) ?_
  simp only [List.nil_append]
  unfold putF at hQ
  refine ifP_dec (fun h=>?_) (fun h=>?_)
  · rw [if_neg (by omega)] at hQ; exact hQ
  · obtain ⟨e1,e2⟩:=tdiv64 (i:=i) (by omega)
    rw [e1,e2,w64_id (by omega) (by omega),u64_eq,show i % 64 % 18446744073709551616=(((i % 64).toNat:Nat):Int) by omega]
    refine ifP_dec (fun h2=>?_) (fun h2=>?_)
    · rw [if_neg (by omega)] at hQ; exact hQ
    · refine ⟨by omega,ifP_pos rfl (idxP_at0 (by omega) (by omega) (idxP_at0 (by omega) (by omega) ?_))⟩
      rw [if_pos (by omega)] at hQ
      have hp:=pw_lt (k:=(i % 64).toNat) (by omega)
      have hb:=okF_at hf (i / 64)
      rw [one_shl (by omega),bor_nat hb.1 hb.2 (Int.natCast_nonneg _) (by generalize 2 ^ (i % 64).toNat=p at *; omega),Int.toNat_natCast]
      exact hQ
def ofF (n:Int) (l:List Int):List Int:=l.foldl (fun f i=>if 0≤i∧i<n∧i<4096 then putF f i else f) (newF n)
theorem ofF_snoc (n:Int) (l:List Int) (i:Int):ofF n (l++[i])=if 0≤i∧i<n∧i<4096 then putF (ofF n l) i else ofF n l:=by simp [ofF]
theorem ofF_prop (n:Int) (l:List Int):okF (ofF n l)∧(ofF n l).length=wordsS n∧∀ j,hasF (ofF n l) j=decide (j∈l∧0≤j∧j<n∧j<4096):=by
  suffices H:∀ k,k≤l.length→okF (ofF n (l.take k))∧(ofF n (l.take k)).length=wordsS n∧∀ j,hasF (ofF n (l.take k)) j=decide (j∈l.take k∧0≤j∧j<n∧j<4096) by
    have:=H l.length (by omega); rwa [List.take_length] at this
  intro k
  induction k with
  | zero=>intro _; exact ⟨newF_ok n,by simp [ofF,newF],fun j=>by simp [ofF,newF_has]⟩
  | succ k ih=>
    intro hk
    obtain ⟨h1,h2,h3⟩:=ih (by omega)
    rw [List.take_succ_eq_append_getElem (by omega),ofF_snoc]
    split
    · rename_i hc
      refine ⟨putF_ok h1 _,by rw [putF_len,h2],fun j=>?_⟩
      rw [putF_has,h2,h3]
      have hw:=words_in hc.1 hc.2.1 hc.2.2
      by_cases e:j=l[k]
      · subst e
        rw [if_pos ⟨rfl,hc.1,hw⟩]
        exact (decide_eq_true ⟨List.mem_append.2 (.inr (by simp)),hc⟩).symm
      · rw [if_neg (fun h=>e h.1)]
        refine decide_eq_decide.2 ?_
        rw [List.mem_append,List.mem_singleton]
        simp only [e,or_false]
    · rename_i hc
      refine ⟨h1,h2,fun j=>?_⟩
      rw [h3]
      refine decide_eq_decide.2 ?_
      rw [List.mem_append,List.mem_singleton]
      by_cases e:j=l[k]
      · subst e
        constructor
        · rintro ⟨q1,q2⟩; exact ⟨.inl q1,q2⟩
        · rintro ⟨_,q2⟩; exact absurd q2 hc
      · simp only [e,or_false]
theorem ref03_Of_ok {n:Int} {l:List Int} {Q:List Int→Prop} (hl:l.length≤1000000000) (hi:∀ x∈l,inI x) (hQ:Q (ofF n l)):ref03_Of n l Q:=by
  unfold ref03_Of
  refine ref03_New_ok (range_intro (fun (s:List Int) i=>(s,i)) 0 l.length (by omega) (fun k s=>s=ofF n (l.take k)) (by omega) (by simp [ofF]) (fun k s next _ hk hs hn=>?_) (fun s next hs=>?_))
  · subst hs
    have hsn:=ofF_snoc n (l.take k) l[k]
    rw [←List.take_succ_eq_append_getElem hk] at hsn
    obtain ⟨p1,p2,_⟩:=ofF_prop n (l.take k)
    refine ifP_dec (fun _=>idxP_nat hk (ifP_dec (fun h1=>idxP_nat hk (ifP_dec (fun h2=>idxP_nat hk (ifP_dec (fun h3=>idxP_nat hk ?_) (fun h3=>hn _ ?_))) (fun h2=>hn _ ?_))) (fun h1=>hn _ ?_))) (fun h=>by omega)
    · refine ref03_Put_ok p1 (by have:=words_le n; omega) (hi _ (List.getElem_mem hk)) (hn _ ?_)
      rw [hsn,if_pos ⟨h1,h2,h3⟩]
    · rw [hsn,if_neg (by omega)]
    · rw [hsn,if_neg (by omega)]
    · rw [hsn,if_neg (by omega)]
  · subst hs
    refine ifP_dec (fun h=>by omega) (fun _=>?_)
    rw [List.take_length]; exact hQ
theorem flags_Of_ok {n:Int} {l:List Int} {Q:List Int→Prop} (hl:l.length≤1000000000) (hi:∀ x∈l,inI x) (hQ:Q (ofF n l)):flags_Of n l Q:=by
  unfold flags_Of
  refine flags_New_ok (range_intro (fun (s:List Int) i=>(s,i)) 0 l.length (by omega) (fun k s=>s=ofF n (l.take k)) (by omega) (by simp [ofF]) (fun k s next _ hk hs hn=>?_) (fun s next hs=>?_))
  · subst hs
    have hsn:=ofF_snoc n (l.take k) l[k]
    rw [←List.take_succ_eq_append_getElem hk] at hsn
    obtain ⟨p1,p2,_⟩:=ofF_prop n (l.take k)
    have hik:=hi _ (List.getElem_mem hk)
    unfold inI at hik
    refine ifP_dec (fun _=>idxP_nat hk ?_) (fun h=>by omega)
    refine join_intro (fun b=>b=decide (l[k]<n∧0≤l[k]∧l[k] / 64<wordsS n)) ?_ ?_
    · rintro b rfl
      refine ifP_dec (fun h=>?_) (fun h=>hn _ ?_)
      · rw [shr6]
        refine idxP_at0 (by omega) (by rw [p2]; omega) (bit_ok h.2.1 (by omega) (idxP_at0 (by omega) (by rw [p2]; omega) (hn _ ?_)))
        have hb:=okF_at p1 (l[k] / 64)
        have hp:=pw_lt (k:=(l[k] % 64).toNat) (by omega)
        rw [hsn,if_pos ⟨h.2.1,h.1,words_out h.2.2⟩,putF,if_pos ⟨h.2.1,by rw [p2]; exact h.2.2⟩,bor_nat hb.1 hb.2 (Int.natCast_nonneg _) (by generalize 2 ^ (l[k] % 64).toNat=p at *; omega),Int.toNat_natCast]
      · rw [hsn,if_neg]
        intro h'
        exact h ⟨h'.2.1,h'.1,words_in h'.1 h'.2.1 h'.2.2⟩
    · intro k' hk'
      refine ifP_dec (fun h=>within_f_ok (hk' _ ?_)) (fun h=>hk' _ ?_)
      · rw [p2]; simp [h]
      · simp [h]
  · subst hs
    refine ifP_dec (fun h=>by omega) (fun _=>?_)
    rw [List.take_length]; exact hQ
def listF (f:List Int):List Int:=((List.range (64*f.length)).filter fun i:Nat=>hasF f i).map fun i:Nat=>(i:Int)
theorem listF_mem {f:List Int} {i:Int}:i∈listF f↔hasF f i=true:=by
  unfold listF
  simp only [List.mem_map,List.mem_filter,List.mem_range]
  constructor
  · rintro ⟨k,⟨_,h⟩,rfl⟩; exact h
  · intro h
    obtain ⟨h1,h2⟩:=hasF_in h
    exact ⟨i.toNat,⟨by omega,by rw [Int.toNat_of_nonneg h1]; exact h⟩,by omega⟩
theorem listF_incr (f:List Int):(listF f).Pairwise (· < ·):=by
  unfold listF
  rw [List.pairwise_map]
  exact List.Pairwise.imp (fun h=>by omega) (List.Pairwise.filter _ List.pairwise_lt_range)
theorem listF_len (f:List Int):(listF f).length≤64*f.length:=by
  unfold listF
  rw [List.length_map]
  have:=List.length_filter_le (fun i:Nat=>hasF f i) (List.range (64*f.length))
  rwa [List.length_range] at this
theorem ref03_List_ok {f:List Int} {Q:List Int→Prop} (hf:okF f) (hl:f.length≤1000000) (hQ:Q (listF f)):ref03_List f Q:=by
  unfold ref03_List
  refine range_intro (fun (s:List Int) i=>(s,i)) 0 (64*f.length) (by omega) (fun k s=>s=((List.range k).filter fun i:Nat=>hasF f i).map fun i:Nat=>(i:Int)) (by omega) (by simp) (fun k s next _ hk hs hn=>?_) (fun s next hs=>?_)
  · subst hs
    refine ifP_dec (fun _=>ref03_Has_ok hf (by unfold inI; omega) ⟨fun h=>?_,fun h=>hn _ ?_⟩) (fun h=>by rw [w64_id (by omega) (by omega)] at h; omega)
    · refine appP_intro ?_ (hn _ ?_)
      · rw [List.length_map]
        have:=List.length_filter_le (fun i:Nat=>hasF f i) (List.range k)
        rw [List.length_range] at this
        simp; omega
      · rw [List.range_succ,List.filter_append,List.map_append]; simp [h]
    · rw [List.range_succ,List.filter_append,List.map_append]; simp [h]
  · subst hs
    exact ifP_dec (fun h=>by rw [w64_id (by omega) (by omega)] at h; omega) (fun _=>hQ)
def rightF (f:List Int) (n:Int):Prop:=(0≤n∧n≤4096)∧f.length=wordsS n∧∀ i∈listF f,i<n
instance (f:List Int) (n:Int):Decidable (rightF f n):=by unfold rightF; infer_instance
theorem ref03_Right_ok {f:List Int} {n:Int} {Q:Bool→Prop} (hf:okF f) (hl:f.length≤1000000) (hQ:Q (decide (rightF f n))):ref03_Right f n Q:=by
  unfold ref03_Right
  have hno:¬rightF f n→Q false:=fun h=>by rwa [decide_eq_false h] at hQ
  have hyes:rightF f n→Q true:=fun h=>by rwa [decide_eq_true h] at hQ
  refine ifP_dec (fun h=>hno fun h'=>?_) (fun h=>ifP_dec (fun h'=>hno fun h''=>?_) (fun h'=>ref03_words_ok (ifP_ne (fun h3=>hno fun h4=>?_) (fun h3=>?_))))
  · have:=h'.1; omega
  · have:=h''.1; omega
  · have:=h4.2.1; omega
  · refine ref03_List_ok hf hl (ifP_eq (fun he=>hyes ⟨by omega,by omega,fun i hi=>?_⟩) (fun he=>?_))
    · have:listF f=[]:=List.eq_nil_of_length_eq_zero (by omega)
      rw [this] at hi; simp at hi
    · have e:w64 (((listF f).length:Int) - 1)=(((listF f).length - 1:Nat):Int):=by
        have:=listF_len f
        rw [w64_id (by omega) (by omega)]; omega
      rw [e]
      refine idxP_nat (by omega) ?_
      by_cases hlt:(listF f)[(listF f).length - 1]'(by omega)<n
      · rw [decide_eq_true hlt]
        refine hyes ⟨by omega,by omega,fun i hi=>?_⟩
        obtain ⟨j,hj,rfl⟩:=List.mem_iff_getElem.1 hi
        rcases Nat.lt_or_ge j ((listF f).length - 1) with g | g
        · have:=List.pairwise_iff_getElem.1 (listF_incr f) j ((listF f).length - 1) hj (by omega) g
          omega
        · have:j=(listF f).length - 1:=by omega
          subst this; exact hlt
      · rw [decide_eq_false hlt]
        exact hno fun h4=>hlt (h4.2.2 _ (List.getElem_mem _))
theorem ofF_right {n:Int} (h:0≤n∧n≤4096) (l:List Int):rightF (ofF n l) n:=by
  obtain ⟨h1,h2,h3⟩:=ofF_prop n l
  refine ⟨h,h2,fun i hi=>?_⟩
  rw [listF_mem,h3] at hi
  exact (of_decide_eq_true hi).2.2.1
theorem ofF_list {n:Int} {l:List Int} (h:n≤4096) (hl:l.Pairwise (· < ·)) (hi:∀ i∈l,0≤i∧i<n):listF (ofF n l)=l:=by
  have hext:∀ {l l':List Int} (h:l.Pairwise (· < ·)) (h':l'.Pairwise (· < ·)) (he:∀ x,x∈l↔x∈l'),l=l':=fun h h' he=>
    sorted_eq ((List.perm_ext_iff_of_nodup (h.imp fun h e=>by omega) (h'.imp fun h e=>by omega)).2 he) h h' fun a b _ _ h1 h2=>by omega
  refine hext (listF_incr _) hl fun x=>?_
  rw [listF_mem,(ofF_prop n l).2.2]
  constructor
  · intro hx; exact (of_decide_eq_true hx).1
  · intro hx; have:=hi x hx; exact decide_eq_true ⟨hx,this.1,this.2,by omega⟩
def IncI (l:List Item):Prop:=l.Pairwise fun a b=>a.At<b.At
instance (l:List Item):Decidable (IncI l):=by unfold IncI; infer_instance
structure VecP (v:Vec):Prop where
  n0:0≤v.N
  n1:v.N≤4096
  inc:IncI v.Items
  ins:∀ x∈v.Items,0≤x.At∧x.At<v.N
instance (v:Vec):Decidable (VecP v):=decidable_of_iff (0≤v.N∧v.N≤4096∧IncI v.Items∧∀ x∈v.Items,0≤x.At∧x.At<v.N) ⟨fun ⟨a,b,c,d⟩=>⟨a,b,c,d⟩,fun ⟨a,b,c,d⟩=>⟨a,b,c,d⟩⟩
def zV:Vec:=⟨0,[]⟩
theorem zV_ok:VecP zV:=⟨by decide,by decide,.nil,by simp [zV]⟩
def sureV (v:Vec):Vec:=if VecP v then v else zV
theorem sureV_ok (v:Vec):VecP (sureV v):=by unfold sureV; split <;> first | assumption | exact zV_ok
theorem sureV_id {v:Vec} (h:VecP v):sureV v=v:=if_pos h
theorem inc_adj {l:List Item} (h:∀ (i:Nat) (hi:i+1<l.length),l[i].At<l[i+1].At):IncI l:=by
  unfold IncI
  rw [List.pairwise_iff_getElem]
  intro i j hi hj hij
  obtain ⟨d,rfl⟩:∃ d,j=i+1+d:=⟨j - i - 1,by omega⟩
  induction d with
  | zero=>exact h i (by omega)
  | succ d ih=>have h1:=ih (by omega) (by omega); have h2:=h (i+1+d) (by omega); exact Int.lt_trans h1 h2
theorem IncI.at {l:List Item} (h:IncI l) {i j:Nat} (hj:j<l.length) (hij:i<j):(l[i]'(by omega)).At<l[j].At:=by
  unfold IncI at h; rw [List.pairwise_iff_getElem] at h; exact h i j (by omega) hj hij
theorem incI_len {l:List Item} (h:IncI l) {n:Int} (hn:0≤n) (hi:∀ x∈l,0≤x.At∧x.At<n):(l.length:Int)≤n:=by
  have:∀ k (hk:k<l.length),(k:Int)≤l[k].At:=by
    intro k
    induction k with
    | zero=>intro hk; exact (hi _ (List.getElem_mem hk)).1
    | succ k ih=>intro hk; have:=ih (by omega); have:=h.at hk (i:=k) (by omega); omega
  rcases Nat.eq_zero_or_pos l.length with e | e
  · rw [e]; exact hn
  · have h1:=this (l.length - 1) (by omega)
    have h2:=hi _ (List.getElem_mem (show l.length - 1<l.length by omega))
    omega
theorem VecP.len {v:Vec} (h:VecP v):v.Items.length≤4096:=by have:=incI_len h.inc h.n0 h.ins; have:=h.n1; omega
theorem spvec_within_ok {x y:Int} {Q:Bool→Prop} (hQ:Q (decide (0≤x∧x≤y))):spvec_within x y Q:=by
  unfold spvec_within
  refine ifP_dec (fun h=>?_) (fun h=>?_)
  · simpa [h] using hQ
  · simpa [h] using hQ
theorem spvec_Right_ok {v:Vec} {Q:Bool→Prop} (hl:v.Items.length≤1000000000) (hQ:Q (decide (VecP v))):spvec_Right v Q:=by
  unfold spvec_Right
  have hno:¬VecP v→Q false:=fun h=>by rwa [decide_eq_false h] at hQ
  have hyes:VecP v→Q true:=fun h=>by rwa [decide_eq_true h] at hQ
  refine spvec_within_ok (ifP_not (fun h=>hno fun h'=>of_decide_eq_false h ⟨h'.n0,h'.n1⟩) (fun h=>?_))
  have h:=of_decide_eq_true h
  unfold slices_ContainsFunc_api_Item_api_Item_cd0 slices_IndexFunc_api_Item_api_Item_a3e
  refine range_intro (s0:=(-1:Int)) (fun (s:Int) i=>(s,i)) 0 v.Items.length (by omega) (fun k s=>(∀ (i:Nat) (hi:i+1<v.Items.length),i+1<k→v.Items[i].At<v.Items[i+1].At)∧(∀ i (hi:i<v.Items.length),i<k→0≤v.Items[i].At∧v.Items[i].At<v.N)∧(k=0→s = -1)∧(∀ (hk:0<k) (hl:k≤v.Items.length),s=(v.Items[k - 1]'(by omega)).At)) (by omega) ⟨fun i _ h=>by omega,fun i _ h=>by omega,fun _=>rfl,fun h=>by omega⟩ (fun k s next _ hk hs hn=>?_) (fun s next hs=>?_)
  · obtain ⟨h1,h2,h3,h4⟩:=hs
    refine ifP_dec (fun _=>idxP_nat hk ?_) (fun h=>by omega)
    unfold spvec_Right_1_81a
    have bad:¬VecP v→(fun r84:Bool×Int=>ifP r84.1 ((fun r17:Int×Int=>(fun r26:Bool×Int=>Q (!r26.1)) (decide (0≤r17.1),r17.2)) ((k:Int),r84.2)) (next (r84.2,w64 ((k:Int)+1)))) (true,v.Items[k].At):=by
      intro hn'
      refine ifP_pos rfl ?_
      simp only [show decide ((0:Int)≤(k:Int))=true by simp]
      exact hno hn'
    refine ifP_dec (fun h5=>bad fun hv=>?_) (fun h5=>?_)
    · rcases Nat.eq_zero_or_pos k with e | e
      · subst e
        rw [h3 rfl] at h5
        have:=(hv.ins _ (List.getElem_mem hk)).1; omega
      · rw [h4 e (by omega)] at h5
        have:=hv.inc.at hk (i:=k - 1) (by omega); omega
    · refine ⟨fun h6=>?_,fun h6=>hn _ ⟨fun i hi hik=>?_,fun i hi hik=>?_,fun h=>by omega,fun _ _=>by simp⟩⟩
      · have h6:=of_decide_eq_true h6
        simp only [show decide ((0:Int)≤(k:Int))=true by simp]
        exact hno fun hv=>by have:=(hv.ins _ (List.getElem_mem hk)).2; omega
      · by_cases e:i+1=k
        · subst e; rw [h4 (by omega) (by omega)] at h5; simp only [Nat.add_sub_cancel] at h5; omega
        · exact h1 i hi (by omega)
      · have h6:=of_decide_eq_false h6
        by_cases e:i=k
        · subst e
          refine ⟨?_,by omega⟩
          rcases Nat.eq_zero_or_pos i with e | e
          · rw [h3 e] at h5; omega
          · rw [h4 e (by omega)] at h5
            have:=(h2 (i - 1) (by omega) (by omega)).1; omega
        · exact h2 i hi (by omega)
  · obtain ⟨h1,h2,h3,h4⟩:=hs
    refine ifP_dec (fun h=>by omega) (fun _=>?_)
    simp only [show decide ((0:Int) ≤ -1)=false by decide]
    refine hyes ⟨h.1,h.2,inc_adj fun i hi=>h1 i hi (by omega),fun x hx=>?_⟩
    obtain ⟨i,hi,rfl⟩:=List.mem_iff_getElem.1 hx
    exact h2 i hi hi
theorem ref09_Right_ok {v:Vec} {Q:Bool→Prop} (hl:v.Items.length≤1000000000) (hQ:Q (decide (VecP v))):ref09_Right v Q:=by
  unfold ref09_Right
  have hno:¬VecP v→Q false:=fun h=>by rwa [decide_eq_false h] at hQ
  have hyes:VecP v→Q true:=fun h=>by rwa [decide_eq_true h] at hQ
  refine ifP_dec (fun h=>hno fun h'=>by have:=h'.n0; omega) (fun g0=>ifP_dec (fun h=>hno fun h'=>by have:=h'.n1; omega) (fun g1=>?_))
  refine scan_intro v.Items.length (by omega) (fun k=>(∀ (i:Nat) (hi:i+1<v.Items.length),i+1<k→v.Items[i].At<v.Items[i+1].At)∧(∀ i (hi:i<v.Items.length),i<k→0≤v.Items[i].At∧v.Items[i].At<v.N)) ⟨fun i _ h=>by omega,fun i _ h=>by omega⟩ (fun k next hk hR hn=>?_) (fun next hR=>?_)
  · refine ifP_dec (fun _=>idxP_nat hk (ifP_dec (fun h=>hno fun hv=>?_) (fun h1=>idxP_nat hk (ifP_dec (fun h=>hno fun hv=>?_) (fun h2=>ifP_dec (fun h3=>idxP_nat hk ?_) (fun h3=>hn ⟨fun i hi hik=>?_,fun i hi hik=>?_⟩)))))) (fun h=>by omega)
    · have:=(hv.ins _ (List.getElem_mem hk)).1; omega
    · have:=(hv.ins _ (List.getElem_mem hk)).2; omega
    · have e:w64 ((k:Int) - 1)=((k - 1:Nat):Int):=by rw [w64_id (by omega) (by omega)]; omega
      rw [e]
      refine idxP_nat (by omega) (ifP_dec (fun h=>hno fun hv=>?_) (fun h4=>hn ⟨fun i hi hik=>?_,fun i hi hik=>?_⟩))
      · have:=hv.inc.at hk (i:=k - 1) (by omega); omega
      · by_cases e:i+1=k
        · subst e; simp only [Nat.add_sub_cancel] at h4; omega
        · exact hR.1 i hi (by omega)
      · by_cases e:i=k
        · subst e; omega
        · exact hR.2 i hi (by omega)
    · omega
    · by_cases e:i=k
      · subst e; omega
      · exact hR.2 i hi (by omega)
  · refine ifP_dec (fun h=>by omega) (fun _=>hyes ⟨by omega,by omega,inc_adj fun i hi=>hR.1 i hi (by omega),fun x hx=>?_⟩)
    obtain ⟨i,hi,rfl⟩:=List.mem_iff_getElem.1 hx
    exact hR.2 i hi hi
theorem ref09_Sure_ok {v:Vec} {Q:Vec→Prop} (hl:v.Items.length≤1000000000) (hQ:Q (sureV v)):ref09_Sure v Q:=by
  unfold ref09_Sure
  unfold sureV at hQ
  refine ref09_Right_ok hl (ifP_dec (fun h=>?_) (fun h=>?_))
  · rwa [if_pos h] at hQ
  · rwa [if_neg h] at hQ
theorem spvec_sure_ok {v:Vec} {Q:Vec→Prop} (hl:v.Items.length≤1000000000) (hQ:Q (sureV v)):spvec_sure v Q:=by
  unfold spvec_sure
  unfold sureV at hQ
  refine spvec_Right_ok hl (ifP_dec (fun h=>?_) (fun h=>?_))
  · rwa [if_pos h] at hQ
  · rwa [if_neg h] at hQ
theorem map_loop {α β:Type} {xs:List α} {f:α→β} {body:List β×Int→(List β×Int→Prop)→Prop} (hl:xs.length≤1000000000)
    (hs:∀ (i:Nat) (s:List β) (next:List β×Int→Prop) (hi:i<xs.length),s.length=i→(next (s++[f xs[i]],w64 ((i:Int)+1)))→body (s,(i:Int)) next)
    (he:∀ (next:List β×Int→Prop) s,s=xs.map f→body (s,(xs.length:Int)) next):loopP body ([],0):=by
  refine range_intro (fun (s:List β) i=>(s,i)) 0 xs.length (by omega) (fun k s=>s=(xs.take k).map f) (by omega) (by simp) (fun k s next _ hk hs' hn=>?_) (fun s next hs'=>?_)
  · refine hs k s next hk (by subst hs'; simp; omega) (hn _ ?_)
    subst hs'
    rw [List.take_succ_eq_append_getElem hk,List.map_append]; rfl
  · rw [List.take_length] at hs'
    exact he next s hs'
def kvI (x:Item):Int×Int:=(x.At,x.Val)
def lkI (l:List Item) (i:Int):Option Int:=mget i (l.map kvI)
theorem lkI_cons (s:Item) (l:List Item) (i:Int):lkI (s :: l) i=if i=s.At then some s.Val else lkI l i:=rfl
theorem lkI_none:∀ {l:List Item} {i:Int},(∀ s∈l,s.At≠i)→lkI l i=none
  | [],_,_=>rfl
  | s :: l,i,h=>by rw [lkI_cons,if_neg (fun e=>h s (by simp) e.symm)]; exact lkI_none fun x hx=>h x (by simp [hx])
theorem lkI_mem:∀ {l:List Item} {i:Int} {v:Int},lkI l i=some v→⟨i,v⟩∈l
  | s :: l,i,v,h=>by
    rw [lkI_cons] at h
    split at h
    · rename_i e; cases h; subst e; simp
    · exact List.mem_cons_of_mem _ (lkI_mem h)
theorem mem_lkI:∀ {l:List Item} (h:IncI l) {s:Item},s∈l→lkI l s.At=some s.Val
  | x :: l,h,s,hs=>by
    unfold IncI at h
    rw [List.pairwise_cons] at h
    rw [lkI_cons]
    rcases List.mem_cons.1 hs with e | hs
    · subst e; rw [if_pos rfl]
    · have:=h.1 s hs
      rw [if_neg (by omega)]; exact mem_lkI h.2 hs
theorem lkI_append:∀ (l:List Item) (m:List Item) (i:Int),lkI (l++m) i=match lkI l i with | some v=>some v | none=>lkI m i
  | [],m,i=>rfl
  | s :: l,m,i=>by
    rw [List.cons_append,lkI_cons,lkI_cons]
    split
    · rfl
    · exact lkI_append l m i
theorem inc_ext {l m:List Item} (h:IncI l) (h':IncI m) (he:∀ i,lkI l i=lkI m i):l=m:=by
  have nd:∀ {l:List Item},IncI l→l.Nodup:=fun h=>h.imp fun hab e=>by subst e; omega
  have hp:l.Perm m:=(List.perm_ext_iff_of_nodup (nd h) (nd h')).2 fun s=>⟨fun hs=>by
    have:=mem_lkI h hs; rw [he] at this; exact lkI_mem this,fun hs=>by
    have:=mem_lkI h' hs; rw [←he] at this; exact lkI_mem this⟩
  exact sorted_eq hp h h' fun a b _ _ h1 h2=>by omega
def getO (o:Option Int):Int×Bool:=match o with | some v=>(v,true) | none=>(0,false)
theorem ref09_Get_ok {v:Vec} {i:Int} {Q:Int×Bool→Prop} (hl:v.Items.length≤1000000000) (hQ:Q (getO (lkI (sureV v).Items i))):ref09_Get v i Q:=by
  unfold ref09_Get
  have hvl:=(sureV_ok v).len
  refine ref09_Sure_ok hl (scan_intro (sureV v).Items.length (by omega) (fun k=>∀ j (hj:j<(sureV v).Items.length),j<k→(sureV v).Items[j].At≠i) (fun j hj h=>by omega) (fun k next hk hR hn=>?_) (fun next hR=>?_))
  · refine ifP_dec (fun _=>idxP_nat hk (ifP_eq (fun e=>idxP_nat hk ?_) (fun e=>hn fun j hj hjk=>?_))) (fun h=>by omega)
    · have:=mem_lkI (sureV_ok v).inc (List.getElem_mem hk)
      rw [e] at this
      rw [this] at hQ; exact hQ
    · by_cases e':j=k
      · subst e'; exact e
      · exact hR j hj (by omega)
  · refine ifP_dec (fun h=>by omega) (fun _=>?_)
    rw [lkI_none fun s hs=>?_] at hQ
    · exact hQ
    · obtain ⟨j,hj,rfl⟩:=List.mem_iff_getElem.1 hs
      exact hR j hj hj
def valsS (n:Nat) (l:List Item):List Int:=(List.range n).map fun i:Nat=>(lkI l i).getD 0
def denS (v:Vec):Dense:=⟨v.N,ofF v.N (v.Items.map (·.At)),valsS v.N.toNat v.Items⟩
theorem valsS_nil (n:Nat):valsS n []=List.replicate n 0:=by
  unfold valsS
  apply List.ext_getElem
  · simp
  · intro i h1 h2; simp [lkI,mget]
theorem valsS_snoc {n:Nat} {l:List Item} {x:Item} (h:∀ s∈l,s.At<x.At) (h0:0≤x.At):valsS n (l++[x])=(valsS n l).set x.At.toNat x.Val:=by
  unfold valsS
  rw [rm_set]
  refine List.map_congr_left fun i _=>?_
  rw [lkI_append,lkI_cons]
  by_cases e:i=x.At.toNat
  · subst e
    rw [if_pos rfl,lkI_none (fun s hs=>by have:=h s hs; omega)]
    simp only
    rw [if_pos (by omega)]; rfl
  · rw [if_neg e,if_neg (by omega)]
    split
    · rename_i v hv; rw [hv]
    · rename_i hv; rw [hv]; rfl
theorem IncI.before {l:List Item} (h:IncI l) {k:Nat} (hk:k<l.length):∀ s∈l.take k,s.At<l[k].At:=by
  intro s hs
  obtain ⟨j,hj,rfl⟩:=List.mem_iff_getElem.1 hs
  rw [List.length_take] at hj
  rw [List.getElem_take]
  exact h.at hk (by omega)
theorem at0_valsS {n:Nat} {l:List Item} {i:Int} (h0:0≤i) (h1:i<n):at0 (valsS n l) i=(lkI l i).getD 0:=by
  unfold valsS at0
  rw [List.getD_eq_getElem?_getD,List.getElem?_map,List.getElem?_range (by omega)]
  simp only [Option.map_some,Option.getD_some]
  rw [Int.toNat_of_nonneg h0]
theorem ref10_New_ok {n:Int} {Q:Dense→Prop} (h:0≤n∧n≤4096) (hQ:Q ⟨n,newF n,List.replicate n.toNat 0⟩):ref10_New n Q:=by
  unfold ref10_New
  exact ifP_dec (fun h'=>by omega) (fun _=>ifP_dec (fun h'=>by omega) (fun _=>⟨by omega,by omega,ref03_New_ok hQ⟩))
theorem ref10_Of_ok {v:Vec} {Q:Dense→Prop} (hl:v.Items.length≤1000000000) (hQ:Q (denS (sureV v))):ref10_Of v Q:=by
  unfold ref10_Of
  have hv:=sureV_ok v
  refine ref09_Sure_ok hl ?_
  generalize sureV v=u at hv hQ
  have hul:=hv.len
  have:=hv.n0; have:=hv.n1
  refine ref10_New_ok ⟨by omega,by omega⟩ (range_intro (s0:=(List.replicate u.N.toNat (0:Int),([]:List Int))) (fun (s:List Int×List Int) i=>(s.1,s.2,i)) 0 u.Items.length (by omega) (fun k s=>s.1=valsS u.N.toNat (u.Items.take k)∧s.2=(u.Items.take k).map (·.At)) (by omega) ⟨by simp [valsS_nil],by simp⟩ (fun k s next _ hk hs hn=>?_) (fun s next hs=>?_))
  · obtain ⟨s1,s2⟩:=s
    obtain ⟨h1,h2⟩:=hs
    simp only at h1 h2 ⊢
    have hin:=hv.ins _ (List.getElem_mem hk)
    refine ifP_dec (fun _=>idxP_nat hk (appP_intro (by subst h2; simp; omega) (idxP_nat hk (idxP_nat hk (idxP_at0 (by omega) (by subst h1; simp [valsS]; omega) (hn (_,_) ⟨?_,?_⟩)))))) (fun h=>by omega)
    · simp only; rw [List.take_succ_eq_append_getElem hk,valsS_snoc (hv.inc.before hk) hin.1,h1]
    · simp only; rw [List.take_succ_eq_append_getElem hk,List.map_append,h2]; rfl
  · obtain ⟨s1,s2⟩:=s
    obtain ⟨h1,h2⟩:=hs
    simp only at h1 h2 ⊢
    rw [List.take_length] at h1 h2
    subst h1; subst h2
    refine ifP_dec (fun h=>by omega) (fun _=>ref03_Of_ok (by simp; omega) (fun x hx=>?_) ?_)
    · obtain ⟨y,hy,rfl⟩:=List.mem_map.1 hx
      have:=hv.ins y hy; unfold inI; omega
    · exact hQ
theorem ats_incr {v:Vec} (h:VecP v):(v.Items.map (·.At)).Pairwise (· < ·):=by rw [List.pairwise_map]; exact h.inc
theorem den_has {v:Vec} (h:VecP v) (i:Int):hasF (denS v).Has i=(lkI v.Items i).isSome:=by
  have hn:=h.n1
  have e:=(ofF_prop v.N (v.Items.map (·.At))).2.2 i
  show hasF (ofF v.N (v.Items.map (·.At))) i=_
  rw [e]
  cases hlk:lkI v.Items i with
  | none=>
    refine decide_eq_false fun h'=>?_
    obtain ⟨x,hx,e⟩:=List.mem_map.1 h'.1
    have:=mem_lkI h.inc hx
    rw [e,hlk] at this; cases this
  | some y=>
    have hm:=lkI_mem hlk
    have:=h.ins _ hm
    simp only at this
    exact decide_eq_true ⟨List.mem_map.2 ⟨_,hm,rfl⟩,this.1,this.2,by omega⟩
theorem den_list {v:Vec} (h:VecP v):listF (denS v).Has=v.Items.map (·.At):=ofF_list h.n1 (ats_incr h) fun i hi=>by
  obtain ⟨x,hx,rfl⟩:=List.mem_map.1 hi
  exact h.ins x hx
theorem den_okF (v:Vec):okF (denS v).Has:=(ofF_prop _ _).1
theorem den_len (v:Vec):(denS v).Has.length≤64:=by rw [show (denS v).Has.length=wordsS v.N from (ofF_prop _ _).2.1]; exact words_le _
theorem ref10_Right_ok {v:Vec} {Q:Bool→Prop} (h:VecP v) (hQ:Q true):ref10_Right (denS v) Q:=by
  unfold ref10_Right
  have h0:=h.n0; have h1:=h.n1
  have hN:(denS v).N=v.N:=rfl
  have hVl:((denS v).Vals.length:Int)=v.N:=by simp [denS,valsS]; omega
  refine ifP_dec (fun h'=>by omega) (fun _=>ifP_dec (fun h'=>by omega) (fun _=>ref03_Right_ok (den_okF v) (by have:=den_len v; omega) ?_))
  rw [show decide (rightF (denS v).Has (denS v).N)=true from decide_eq_true (ofF_right ⟨h0,h1⟩ _)]
  refine ifP_neg rfl (ifP_ne (fun h'=>absurd hVl h') (fun _=>?_))
  refine scan_intro v.N.toNat (by omega) (fun _=>True) trivial (fun k next hk _ hn=>?_) (fun next _=>?_)
  · refine ifP_dec (fun _=>ref03_Has_ok (den_okF v) (by unfold inI; omega) (ifP_not (fun hb=>?_) (fun _=>hn trivial))) (fun h'=>by omega)
    refine idxP_at0 (by omega) (by omega) (ifP_ne (fun h'=>?_) (fun _=>hn trivial))
    rw [den_has h] at hb
    have:at0 (denS v).Vals (k:Int)=(lkI v.Items k).getD 0:=at0_valsS (by omega) (by omega)
    rw [this] at h'
    cases hlk:lkI v.Items (k:Int) with
    | none=>rw [hlk] at h'; exact absurd rfl h'
    | some y=>rw [hlk] at hb; cases hb
  · refine ifP_dec (fun h'=>by omega) (fun _=>hQ)
theorem ref10_Back_ok {v:Vec} {Q:Vec→Prop} (h:VecP v) (hQ:Q v):ref10_Back (denS v) Q:=by
  unfold ref10_Back
  have h0:=h.n0; have h1:=h.n1; have hl:=h.len
  refine ref10_Right_ok h (ifP_neg rfl (ref03_List_ok (den_okF v) (by have:=den_len v; omega) ?_))
  rw [den_list h]
  have hVl:((denS v).Vals.length:Int)=v.N:=by simp [denS,valsS]; omega
  refine map_loop (xs:=v.Items.map (·.At)) (f:=fun i=>(⟨i,(lkI v.Items i).getD 0⟩:Item)) (by simp; omega) (fun i s next hi hs hn=>?_) (fun next s hs=>?_)
  · have hi':i<v.Items.length:=by simpa using hi
    have hin:=h.ins _ (List.getElem_mem hi')
    refine ifP_dec (fun _=>idxP_nat hi (idxP_nat hi ?_)) (fun h'=>by omega)
    simp only [List.getElem_map]
    have e:at0 (denS v).Vals v.Items[i].At=(lkI v.Items v.Items[i].At).getD 0:=at0_valsS hin.1 (by omega)
    refine idxP_at0 hin.1 (by omega) (appP_intro (by simp; omega) ?_)
    rw [e]
    simpa only [List.getElem_map] using hn
  · refine ifP_dec (fun h'=>by omega) (fun _=>?_)
    have:s=v.Items:=by
      subst hs
      rw [List.map_map]
      refine (List.map_congr_left fun x hx=>?_).trans (List.map_id _)
      simp only [Function.comp,mem_lkI h.inc hx,Option.getD_some,id]
    rw [this]; exact hQ
end Go.Proofs.YtaefnmlbnkmahaaGreat
