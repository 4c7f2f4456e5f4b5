import Derived.Test.YtaefnmlbnkmahaaGreatBaseA
namespace Go.Proofs.YtaefnmlbnkmahaaGreat
open Go Go.Fw
set_option linter.unusedVariables false
set_option linter.unusedSimpArgs false
def okF (f:List Int):Prop:=∀ x∈f,0≤x∧x<18446744073709551616
def hasF (f:List Int) (i:Int):Bool:=decide (0≤i) && (at0 f (i / 64)).toNat.testBit (i % 64).toNat
theorem at0_over {f:List Int} {i:Int} (h:(f.length:Int)≤i):at0 f i=0:=by
  unfold at0
  rw [List.getD_eq_getElem?_getD,List.getElem?_eq_none (by omega)]; rfl
theorem okF_at {f:List Int} (h:okF f) (i:Int):0≤at0 f i∧at0 f i<18446744073709551616:=by
  by_cases e:i.toNat<f.length
  · have:at0 f i=f[i.toNat]:=by simp [at0,List.getD_eq_getElem?_getD,e]
    rw [this]; exact h _ (List.getElem_mem e)
  · have:at0 f i=0:=by unfold at0; rw [List.getD_eq_getElem?_getD,List.getElem?_eq_none (by omega)]; rfl
    rw [this]; omega
theorem hasF_over {f:List Int} {i:Int} (h:64*(f.length:Int)≤i):hasF f i=false:=by
  unfold hasF; rw [at0_over (by omega)]; simp
theorem hasF_neg {f:List Int} {i:Int} (h:i<0):hasF f i=false:=by
  unfold hasF; simp [show ¬0≤i by omega]
theorem hasF_in {f:List Int} {i:Int} (h:hasF f i=true):0≤i∧i<64*(f.length:Int):=by
  rcases Int.lt_or_le i 0 with h' | h'
  · rw [hasF_neg h'] at h; cases h
  · rcases Int.lt_or_le i (64*(f.length:Int)) with h2 | h2
    · exact ⟨h',h2⟩
    · rw [hasF_over h2] at h; cases h
theorem shr6 (i:Int):shr .i64 i 6=i / 64:=by
  unfold shr
  rw [Int.fdiv_eq_ediv_of_nonneg _ (by decide)]; rfl
theorem within_f_ok {f:List Int} {i:Int} {Q:Bool→Prop} (hQ:Q (decide (0≤i∧i / 64<f.length))):flags_within f i Q:=by
  unfold flags_within
  rw [shr6]
  refine ifP_dec (fun h=>?_) (fun h=>?_)
  · simpa [h] using hQ
  · simpa [h] using hQ
theorem pw_int (k:Nat):(2:Int) ^ k=((2 ^ k:Nat):Int):=by rw [Int.natCast_pow]; rfl
theorem pw_lt {k:Nat} (hk:k<64):(2:Nat) ^ k<18446744073709551616:=Nat.pow_lt_pow_right (n:=64) (a:=2) (by omega) hk
theorem one_shl {k:Nat} (hk:k<64):shl .u64 1 k=((2 ^ k:Nat):Int):=by
  rw [shl_u _ (by omega),Int.one_mul,pw_int]
  have hp:=pw_lt hk
  generalize 2 ^ k=p at *
  omega
theorem and_pw (x k:Nat):x &&& 2 ^ k=if x.testBit k then 2 ^ k else 0:=by
  apply Nat.eq_of_testBit_eq
  intro j
  rw [Nat.testBit_and,Nat.testBit_two_pow]
  by_cases e:k=j
  · subst e
    cases h:x.testBit k
    · simp
    · simp [Nat.testBit_two_pow]
  · cases h:x.testBit k
    · simp [e]
    · simp [e,Nat.testBit_two_pow]
theorem bit_ok {i:Int} {Q:Int→Prop} (h0:0≤i) (h1:i<18446744073709551616) (hQ:Q ((2 ^ (i % 64).toNat:Nat):Int)):flags_bit i Q:=by
  unfold flags_bit
  have e:bnd .u64 (IntKind.wrap .u64 i) 63=(((i % 64).toNat:Nat):Int):=by
    rw [u64_eq,show i % 18446744073709551616=i by omega,bnd_nat h0 h1 (by omega) (by omega)]
    congr 1
    rw [show Int.toNat 63=2 ^ 6 - 1 from rfl,Nat.and_two_pow_sub_one_eq_mod]
    omega
  rw [e]
  refine ⟨by omega,?_⟩
  rw [one_shl (by omega)]; exact hQ
theorem flags_Has_ok {f:List Int} {i:Int} {Q:Bool→Prop} (hf:okF f) (hi:inI i) (hQ:Q (hasF f i)):flags_Has f i Q:=by
  unfold flags_Has
  unfold inI at hi
  refine within_f_ok ⟨fun h=>?_,fun h=>?_⟩
  · have h:=of_decide_eq_true h
    rw [shr6]
    have hx:=okF_at hf (i / 64)
    refine idxP_at0 (by omega) h.2 (bit_ok h.1 (by omega) ?_)
    have hp:=pw_lt (k:=(i % 64).toNat) (by omega)
    have e:hasF f i=(at0 f (i / 64)).toNat.testBit (i % 64).toNat:=by unfold hasF; simp [h.1]
    rw [e] at hQ
    have hpos:0<(2:Nat) ^ (i % 64).toNat:=Nat.pow_pos (by omega)
    have ha:=and_pw (at0 f (i / 64)).toNat (i % 64).toNat
    generalize (i % 64).toNat=k at *
    rw [bnd_nat hx.1 hx.2 (Int.natCast_nonneg _) (by generalize 2 ^ k=p at *; omega),Int.toNat_natCast,ha]
    cases hb:(at0 f (i / 64)).toNat.testBit k with
    | false=>rw [hb] at hQ; simpa using hQ
    | true=>
      rw [hb] at hQ
      have e2:(((if (true:Bool)=true then 2 ^ k else 0:Nat):Int) != 0)=true:=by
        rw [if_pos rfl,bne_iff_ne]
        generalize 2 ^ k=p at *; omega
      rw [e2]; exact hQ
  · have h:=of_decide_eq_false h
    have e:hasF f i=false:=by
      rcases Int.lt_or_le i 0 with h' | h'
      · exact hasF_neg h'
      · exact hasF_over (by omega)
    rw [e] at hQ; exact hQ
theorem tdiv64 {i:Int} (h:0≤i):i.tdiv 64=i / 64∧i.tmod 64=i % 64:=⟨Int.tdiv_eq_ediv_of_nonneg h,Int.tmod_eq_emod_of_nonneg h⟩
def wordsS (n:Int):Nat:=((if 4096<(if n<0 then 0 else n) then 4096 else (if n<0 then 0 else n))+63).toNat / 64
def newF (n:Int):List Int:=List.replicate (wordsS n) 0
theorem words_le (n:Int):wordsS n≤64:=by unfold wordsS; split <;> split <;> omega
theorem words_in {n i:Int} (h0:0≤i) (hn:i<n) (h:i<4096):i / 64<wordsS n:=by unfold wordsS; split <;> split <;> omega
theorem words_out {n i:Int} (hn:i / 64<wordsS n):i<4096:=by unfold wordsS at hn; split at hn <;> split at hn <;> omega
theorem newF_ok (n:Int):okF (newF n):=by intro x hx; rw [newF,List.mem_replicate] at hx; omega
theorem newF_has (n i:Int):hasF (newF n) i=false:=by
  have:∀ k,at0 (newF n) k=0:=by
    intro k; unfold at0 newF
    rw [List.getD_eq_getElem?_getD,List.getElem?_replicate]; split <;> rfl
  unfold hasF; rw [this]; simp
theorem flags_words_ok {n:Int} {Q:Int→Prop} (hQ:Q (wordsS n)):flags_words n Q:=by
  unfold flags_words
  rw [shr6]
  have e:w64 ((if 4096<(if 0 > n then 0 else n) then 4096 else (if 0 > n then 0 else n))+63) / 64=(wordsS n:Int):=by
    unfold wordsS
    rw [w64_eq]
    split <;> split <;> omega
  rw [e]; exact hQ
theorem ref03_words_ok {n:Int} {Q:Int→Prop} (hQ:Q (wordsS n)):ref03_words n Q:=by
  unfold ref03_words
  refine join_intro (fun t=>t=if 4096<n then 4096 else n) ?_ ?_
  · rintro t ht
    refine ifP_dec (fun h=>?_) (fun h=>?_)
    · have hn1:n<1:=by
        subst ht
        split at h
        · omega
        · exact h
      have:wordsS n=0:=by
        unfold wordsS
        repeat' split
        all_goals omega
      rw [this] at hQ; exact hQ
    · have:w64 ((w64 (t+63)).tdiv 64)=(wordsS n:Int):=by
        unfold wordsS
        have ht0:1≤t∧t≤4096:=by subst ht; split at h <;> split <;> omega
        rw [w64_id (x:=t+63) (by omega) (by omega),Int.tdiv_eq_ediv_of_nonneg (by omega),w64_id (by omega) (by omega)]
        subst ht; split <;> split <;> omega
      rw [this]; exact hQ
  · intro k hk
    exact ifP_dec (fun h=>hk _ (by rw [if_pos h])) (fun h=>hk _ (by rw [if_neg h]))
theorem flags_New_ok {n:Int} {Q:List Int→Prop} (hQ:Q (newF n)):flags_New n Q:=by
  unfold flags_New
  refine flags_words_ok ⟨by omega,by have:=words_le n; omega,?_⟩
  simpa [newF] using hQ
theorem ref03_New_ok {n:Int} {Q:List Int→Prop} (hQ:Q (newF n)):ref03_New n Q:=by
  unfold ref03_New
  refine ref03_words_ok ⟨by omega,by have:=words_le n; omega,?_⟩
  simpa [newF] using hQ
def putF (f:List Int) (i:Int):List Int:=if 0≤i∧i / 64<f.length then f.set (i / 64).toNat (((at0 f (i / 64)).toNat ||| 2 ^ (i % 64).toNat:Nat):Int) else f
theorem putF_len (f:List Int) (i:Int):(putF f i).length=f.length:=by unfold putF; split <;> simp
theorem putF_ok {f:List Int} (h:okF f) (i:Int):okF (putF f i):=by
  unfold putF
  split
  · intro x hx
    rcases List.mem_or_eq_of_mem_set hx with hx | hx
    · exact h x hx
    · have hb:=okF_at h (i / 64)
      have hp:(2:Nat) ^ (i % 64).toNat<2 ^ 64:=Nat.pow_lt_pow_right (by omega) (by omega)
      have:=Nat.or_lt_two_pow (x:=(at0 f (i / 64)).toNat) (y:=2 ^ (i % 64).toNat) (n:=64) (by omega) hp
      omega
  · exact h
theorem putF_has {f:List Int} (i j:Int):hasF (putF f i) j=if j=i∧0≤i∧i / 64<f.length then true else hasF f j:=by
  unfold putF
  by_cases hc:0≤i∧i / 64<f.length
  · rw [if_pos hc]
    rcases Int.lt_or_le j 0 with hj | hj
    · rw [hasF_neg hj,if_neg (by omega),hasF_neg hj]
    · have hset:∀ v:Int,at0 (f.set (i / 64).toNat v) (j / 64)=if j / 64=i / 64 then v else at0 f (j / 64):=by
        intro v
        unfold at0
        rw [List.getD_eq_getElem?_getD,List.getD_eq_getElem?_getD]
        by_cases e:j / 64=i / 64
        · rw [if_pos e,e,List.getElem?_set_self (by omega)]; rfl
        · rw [if_neg e,List.getElem?_set_ne (by omega)]
      unfold hasF
      rw [hset]
      by_cases e:j / 64=i / 64
      · rw [if_pos e,Int.toNat_natCast,Nat.testBit_or,Nat.testBit_two_pow,e]
        by_cases e2:j=i
        · subst e2; simp [hc,hj]
        · have:¬(i % 64).toNat=(j % 64).toNat:=by omega
          simp [e2,this]
      · rw [if_neg e,if_neg (by intro h; exact e (by rw [h.1]))]
  · rw [if_neg hc,if_neg (fun h=>hc h.2)]
theorem ref03_Put_ok {f:List Int} {i:Int} {Q:List Int→Prop} (hf:okF f) (hl:f.length≤1000000) (hi:inI i) (hQ:Q (putF f i)):ref03_Put f i Q:=by
  unfold ref03_Put ref03_set
  unfold inI at hi
  refine appP_intro (by simp; omega) ?_
  simp only [List.nil_append]
  unfold putF at hQ
  refine ifP_dec (fun h=>?_) (fun h=>?_)
  · rw [if_neg (by omega)] at hQ; exact hQ
  · obtain ⟨e1,e2⟩:=tdiv64 (i:=i) (by omega)
    rw [e1,e2,w64_id (by omega) (by omega),u64_eq,show i % 64 % 18446744073709551616=(((i % 64).toNat:Nat):Int) by omega]
    refine ifP_dec (fun h2=>?_) (fun h2=>?_)
    · rw [if_neg (by omega)] at hQ; exact hQ
    · refine ⟨by omega,ifP_pos rfl (idxP_at0 (by omega) (by omega) (idxP_at0 (by omega) (by omega) ?_))⟩
      rw [if_pos (by omega)] at hQ
      have hp:=pw_lt (k:=(i % 64).toNat) (by omega)
      have hb:=okF_at hf (i / 64)
      rw [one_shl (by omega),bor_nat hb.1 hb.2 (Int.natCast_nonneg _) (by generalize 2 ^ (i % 64).toNat=p at *; omega),Int.toNat_natCast]
      exact hQ
def ofF (n:Int) (l:List Int):List Int:=l.foldl (fun f i=>if 0≤i∧i<n∧i<4096 then putF f i else f) (newF n)
theorem ofF_snoc (n:Int) (l:List Int) (i:Int):ofF n (l++[i])=if 0≤i∧i<n∧i<4096 then putF (ofF n l) i else ofF n l:=by simp [ofF]
theorem ofF_prop (n:Int) (l:List Int):okF (ofF n l)∧(ofF n l).length=wordsS n∧∀ j,hasF (ofF n l) j=decide (j∈l∧0≤j∧j<n∧j<4096):=by
  suffices H:∀ k,k≤l.length→okF (ofF n (l.take k))∧(ofF n (l.take k)).length=wordsS n∧∀ j,hasF (ofF n (l.take k)) j=decide (j∈l.take k∧0≤j∧j<n∧j<4096) by
    have:=H l.length (by omega); rwa [List.take_length] at this
  intro k
  induction k with
  | zero=>intro _; exact ⟨newF_ok n,by simp [ofF,newF],fun j=>by simp [ofF,newF_has]⟩
  | succ k ih=>
    intro hk
    obtain ⟨h1,h2,h3⟩:=ih (by omega)
    rw [List.take_succ_eq_append_getElem (by omega),ofF_snoc]
    split
    · rename_i hc
      refine ⟨putF_ok h1 _,by rw [putF_len,h2],fun j=>?_⟩
      rw [putF_has,h2,h3]
      have hw:=words_in hc.1 hc.2.1 hc.2.2
      by_cases e:j=l[k]
      · subst e
        rw [if_pos ⟨rfl,hc.1,hw⟩]
        exact (decide_eq_true ⟨List.mem_append.2 (.inr (by simp)),hc⟩).symm
      · rw [if_neg (fun h=>e h.1)]
        refine decide_eq_decide.2 ?_
        rw [List.mem_append,List.mem_singleton]
        simp only [e,or_false]
    · rename_i hc
      refine ⟨h1,h2,fun j=>?_⟩
      rw [h3]
      refine decide_eq_decide.2 ?_
      rw [List.mem_append,List.mem_singleton]
      by_cases e:j=l[k]
      · subst e
        constructor
        · rintro ⟨q1,q2⟩; exact ⟨.inl q1,q2⟩
        · rintro ⟨_,q2⟩; exact absurd q2 hc
      · simp only [e,or_false]
theorem ref03_Of_ok {n:Int} {l:List Int} {Q:List Int→Prop} (hl:l.length≤1000000000) (hi:∀ x∈l,inI x) (hQ:Q (ofF n l)):ref03_Of n l Q:=by
  unfold ref03_Of
  refine ref03_New_ok (range_intro (fun (s:List Int) i=>(s,i)) 0 l.length (by omega) (fun k s=>s=ofF n (l.take k)) (by omega) (by simp [ofF]) (fun k s next _ hk hs hn=>?_) (fun s next hs=>?_))
  · subst hs
    have hsn:=ofF_snoc n (l.take k) l[k]
    rw [←List.take_succ_eq_append_getElem hk] at hsn
    obtain ⟨p1,p2,_⟩:=ofF_prop n (l.take k)
    refine ifP_dec (fun _=>idxP_nat hk (ifP_dec (fun h1=>idxP_nat hk (ifP_dec (fun h2=>idxP_nat hk (ifP_dec (fun h3=>idxP_nat hk ?_) (fun h3=>hn _ ?_))) (fun h2=>hn _ ?_))) (fun h1=>hn _ ?_))) (fun h=>by omega)
    · refine ref03_Put_ok p1 (by have:=words_le n; omega) (hi _ (List.getElem_mem hk)) (hn _ ?_)
      rw [hsn,if_pos ⟨h1,h2,h3⟩]
    · rw [hsn,if_neg (by omega)]
    · rw [hsn,if_neg (by omega)]
    · rw [hsn,if_neg (by omega)]
  · subst hs
    refine ifP_dec (fun h=>by omega) (fun _=>?_)
    rw [List.take_length]; exact hQ
theorem flags_Of_ok {n:Int} {l:List Int} {Q:List Int→Prop} (hl:l.length≤1000000000) (hi:∀ x∈l,inI x) (hQ:Q (ofF n l)):flags_Of n l Q:=by
  unfold flags_Of
  refine flags_New_ok (range_intro (fun (s:List Int) i=>(s,i)) 0 l.length (by omega) (fun k s=>s=ofF n (l.take k)) (by omega) (by simp [ofF]) (fun k s next _ hk hs hn=>?_) (fun s next hs=>?_))
  · subst hs
    have hsn:=ofF_snoc n (l.take k) l[k]
    rw [←List.take_succ_eq_append_getElem hk] at hsn
    obtain ⟨p1,p2,_⟩:=ofF_prop n (l.take k)
    have hik:=hi _ (List.getElem_mem hk)
    unfold inI at hik
    refine ifP_dec (fun _=>idxP_nat hk ?_) (fun h=>by omega)
    refine join_intro (fun b=>b=decide (l[k]<n∧0≤l[k]∧l[k] / 64<wordsS n)) ?_ ?_
    · rintro b rfl
      refine ifP_dec (fun h=>?_) (fun h=>hn _ ?_)
      · rw [shr6]
        refine idxP_at0 (by omega) (by rw [p2]; omega) (bit_ok h.2.1 (by omega) (idxP_at0 (by omega) (by rw [p2]; omega) (hn _ ?_)))
        have hb:=okF_at p1 (l[k] / 64)
        have hp:=pw_lt (k:=(l[k] % 64).toNat) (by omega)
        rw [hsn,if_pos ⟨h.2.1,h.1,words_out h.2.2⟩,putF,if_pos ⟨h.2.1,by rw [p2]; exact h.2.2⟩,bor_nat hb.1 hb.2 (Int.natCast_nonneg _) (by generalize 2 ^ (l[k] % 64).toNat=p at *; omega),Int.toNat_natCast]
      · rw [hsn,if_neg]
        intro h'
        exact h ⟨h'.2.1,h'.1,words_in h'.1 h'.2.1 h'.2.2⟩
    · intro k' hk'
      refine ifP_dec (fun h=>within_f_ok (hk' _ ?_)) (fun h=>hk' _ ?_)
      · rw [p2]; simp [h]
      · simp [h]
  · subst hs
    refine ifP_dec (fun h=>by omega) (fun _=>?_)
    rw [List.take_length]; exact hQ
def listF (f:List Int):List Int:=((List.range (64*f.length)).filter fun i:Nat=>hasF f i).map fun i:Nat=>(i:Int)
theorem listF_mem {f:List Int} {i:Int}:i∈listF f↔hasF f i=true:=by
  unfold listF
  simp only [List.mem_map,List.mem_filter,List.mem_range]
  constructor
  · rintro ⟨k,⟨_,h⟩,rfl⟩; exact h
  · intro h
    obtain ⟨h1,h2⟩:=hasF_in h
    exact ⟨i.toNat,⟨by omega,by rw [Int.toNat_of_nonneg h1]; exact h⟩,by omega⟩
theorem listF_incr (f:List Int):(listF f).Pairwise (· < ·):=by
  unfold listF
  rw [List.pairwise_map]
  exact List.Pairwise.imp (fun h=>by omega) (List.Pairwise.filter _ List.pairwise_lt_range)
def rightF (f:List Int) (n:Int):Prop:=(0≤n∧n≤4096)∧f.length=wordsS n∧∀ i∈listF f,i<n
instance (f:List Int) (n:Int):Decidable (rightF f n):=by unfold rightF; infer_instance
theorem ofF_right {n:Int} (h:0≤n∧n≤4096) (l:List Int):rightF (ofF n l) n:=by
  obtain ⟨h1,h2,h3⟩:=ofF_prop n l
  refine ⟨h,h2,fun i hi=>?_⟩
  rw [listF_mem,h3] at hi
  exact (of_decide_eq_true hi).2.2.1
def IncI (l:List Item):Prop:=l.Pairwise fun a b=>a.At<b.At
instance (l:List Item):Decidable (IncI l):=by unfold IncI; infer_instance
structure VecP (v:Vec):Prop where
  n0:0≤v.N
  n1:v.N≤4096
  inc:IncI v.Items
  ins:∀ x∈v.Items,0≤x.At∧x.At<v.N
instance (v:Vec):Decidable (VecP v):=decidable_of_iff (0≤v.N∧v.N≤4096∧IncI v.Items∧∀ x∈v.Items,0≤x.At∧x.At<v.N) ⟨fun ⟨a,b,c,d⟩=>⟨a,b,c,d⟩,fun ⟨a,b,c,d⟩=>⟨a,b,c,d⟩⟩
def zV:Vec:=⟨0,[]⟩
theorem zV_ok:VecP zV:=⟨by decide,by decide,.nil,by simp [zV]⟩
def sureV (v:Vec):Vec:=if VecP v then v else zV
theorem sureV_ok (v:Vec):VecP (sureV v):=by unfold sureV; split <;> first | assumption | exact zV_ok
theorem sureV_id {v:Vec} (h:VecP v):sureV v=v:=if_pos h
theorem inc_adj {l:List Item} (h:∀ (i:Nat) (hi:i+1<l.length),l[i].At<l[i+1].At):IncI l:=by
  unfold IncI
  rw [List.pairwise_iff_getElem]
  intro i j hi hj hij
  obtain ⟨d,rfl⟩:∃ d,j=i+1+d:=⟨j - i - 1,by omega⟩
  induction d with
  | zero=>exact h i (by omega)
  | succ d ih=>have h1:=ih (by omega) (by omega); have h2:=h (i+1+d) (by omega); exact Int.lt_trans h1 h2
theorem IncI.at {l:List Item} (h:IncI l) {i j:Nat} (hj:j<l.length) (hij:i<j):(l[i]'(by omega)).At<l[j].At:=by
  unfold IncI at h; rw [List.pairwise_iff_getElem] at h; exact h i j (by omega) hj hij
theorem incI_len {l:List Item} (h:IncI l) {n:Int} (hn:0≤n) (hi:∀ x∈l,0≤x.At∧x.At<n):(l.length:Int)≤n:=by
  have:∀ k (hk:k<l.length),(k:Int)≤l[k].At:=by
    intro k
    induction k with
    | zero=>intro hk; exact (hi _ (List.getElem_mem hk)).1
    | succ k ih=>intro hk; have:=ih (by omega); have:=h.at hk (i:=k) (by omega); omega
  rcases Nat.eq_zero_or_pos l.length with e | e
  · rw [e]; exact hn
  · have h1:=this (l.length - 1) (by omega)
    have h2:=hi _ (List.getElem_mem (show l.length - 1<l.length by omega))
    omega
theorem VecP.len {v:Vec} (h:VecP v):v.Items.length≤4096:=by have:=incI_len h.inc h.n0 h.ins; have:=h.n1; omega
theorem spvec_within_ok {x y:Int} {Q:Bool→Prop} (hQ:Q (decide (0≤x∧x≤y))):spvec_within x y Q:=by
  unfold spvec_within
  refine ifP_dec (fun h=>?_) (fun h=>?_)
  · simpa [h] using hQ
  · simpa [h] using hQ
theorem spvec_Right_ok {v:Vec} {Q:Bool→Prop} (hl:v.Items.length≤1000000000) (hQ:Q (decide (VecP v))):spvec_Right v Q:=by
  unfold spvec_Right
  have hno:¬VecP v→Q false:=fun h=>by rwa [decide_eq_false h] at hQ
  have hyes:VecP v→Q true:=fun h=>by rwa [decide_eq_true h] at hQ
  refine spvec_within_ok (ifP_not (fun h=>hno fun h'=>of_decide_eq_false h ⟨h'.n0,h'.n1⟩) (fun h=>?_))
  have h:=of_decide_eq_true h
  unfold slices_ContainsFunc_api_Item_api_Item_cd0 slices_IndexFunc_api_Item_api_Item_a3e
  refine range_intro (s0:=(-1:Int)) (fun (s:Int) i=>(s,i)) 0 v.Items.length (by omega) (fun k s=>(∀ (i:Nat) (hi:i+1<v.Items.length),i+1<k→v.Items[i].At<v.Items[i+1].At)∧(∀ i (hi:i<v.Items.length),i<k→0≤v.Items[i].At∧v.Items[i].At<v.N)∧(k=0→s = -1)∧(∀ (hk:0<k) (hl:k≤v.Items.length),s=(v.Items[k - 1]'(by omega)).At)) (by omega) ⟨fun i _ h=>by omega,fun i _ h=>by omega,fun _=>rfl,fun h=>by omega⟩ (fun k s next _ hk hs hn=>?_) (fun s next hs=>?_)
  · obtain ⟨h1,h2,h3,h4⟩:=hs
    refine ifP_dec (fun _=>idxP_nat hk ?_) (fun h=>by omega)
    unfold spvec_Right_1_81a
    have bad:¬VecP v→(fun r84:Bool×Int=>ifP r84.1 ((fun r17:Int×Int=>(fun r26:Bool×Int=>Q (!r26.1)) (decide (0≤r17.1),r17.2)) ((k:Int),r84.2)) (next (r84.2,w64 ((k:Int)+1)))) (true,v.Items[k].At):=by
      intro hn'
      refine ifP_pos rfl ?_
      simp only [show decide ((0:Int)≤(k:Int))=true by simp]
      exact hno hn'
    refine ifP_dec (fun h5=>bad fun hv=>?_) (fun h5=>?_)
    · rcases Nat.eq_zero_or_pos k with e | e
      · subst e
        rw [h3 rfl] at h5
        have:=(hv.ins _ (List.getElem_mem hk)).1; omega
      · rw [h4 e (by omega)] at h5
        have:=hv.inc.at hk (i:=k - 1) (by omega); omega
    · refine ⟨fun h6=>?_,fun h6=>hn _ ⟨fun i hi hik=>?_,fun i hi hik=>?_,fun h=>by omega,fun _ _=>by simp⟩⟩
      · have h6:=of_decide_eq_true h6
        simp only [show decide ((0:Int)≤(k:Int))=true by simp]
        exact hno fun hv=>by have:=(hv.ins _ (List.getElem_mem hk)).2; omega
      · by_cases e:i+1=k
        · subst e; rw [h4 (by omega) (by omega)] at h5; simp only [Nat.add_sub_cancel] at h5; omega
        · exact h1 i hi (by omega)
      · have h6:=of_decide_eq_false h6
        by_cases e:i=k
        · subst e
          refine ⟨?_,by omega⟩
          rcases Nat.eq_zero_or_pos i with e | e
          · rw [h3 e] at h5; omega
          · rw [h4 e (by omega)] at h5
            have:=(h2 (i - 1) (by omega) (by omega)).1; omega
        · exact h2 i hi (by omega)
  · obtain ⟨h1,h2,h3,h4⟩:=hs
    refine ifP_dec (fun h=>by omega) (fun _=>?_)
    simp only [show decide ((0:Int) ≤ -1)=false by decide]
    refine hyes ⟨h.1,h.2,inc_adj fun i hi=>h1 i hi (by omega),fun x hx=>?_⟩
    obtain ⟨i,hi,rfl⟩:=List.mem_iff_getElem.1 hx
    exact h2 i hi hi
theorem spvec_sure_ok {v:Vec} {Q:Vec→Prop} (hl:v.Items.length≤1000000000) (hQ:Q (sureV v)):spvec_sure v Q:=by
  unfold spvec_sure
  unfold sureV at hQ
  refine spvec_Right_ok hl (ifP_dec (fun h=>?_) (fun h=>?_))
  · rwa [if_pos h] at hQ
  · rwa [if_neg h] at hQ
def kvI (x:Item):Int×Int:=(x.At,x.Val)
def lkI (l:List Item) (i:Int):Option Int:=mget i (l.map kvI)
theorem lkI_cons (s:Item) (l:List Item) (i:Int):lkI (s :: l) i=if i=s.At then some s.Val else lkI l i:=rfl
theorem lkI_none:∀ {l:List Item} {i:Int},(∀ s∈l,s.At≠i)→lkI l i=none
  | [],_,_=>rfl
  | s :: l,i,h=>by rw [lkI_cons,if_neg (fun e=>h s (by simp) e.symm)]; exact lkI_none fun x hx=>h x (by simp [hx])
theorem lkI_mem:∀ {l:List Item} {i:Int} {v:Int},lkI l i=some v→⟨i,v⟩∈l
  | s :: l,i,v,h=>by
    rw [lkI_cons] at h
    split at h
    · rename_i e; cases h; subst e; simp
    · exact List.mem_cons_of_mem _ (lkI_mem h)
theorem mem_lkI:∀ {l:List Item} (h:IncI l) {s:Item},s∈l→lkI l s.At=some s.Val
  | x :: l,h,s,hs=>by
    unfold IncI at h
    rw [List.pairwise_cons] at h
    rw [lkI_cons]
    rcases List.mem_cons.1 hs with e | hs
    · subst e; rw [if_pos rfl]
    · have:=h.1 s hs
      rw [if_neg (by omega)]; exact mem_lkI h.2 hs
theorem lkI_append:∀ (l:List Item) (m:List Item) (i:Int),lkI (l++m) i=match lkI l i with | some v=>some v | none=>lkI m i
  | [],m,i=>rfl
  | s :: l,m,i=>by
    rw [List.cons_append,lkI_cons,lkI_cons]
    split
    · rfl
    · exact lkI_append l m i
theorem inc_ext {l m:List Item} (h:IncI l) (h':IncI m) (he:∀ i,lkI l i=lkI m i):l=m:=by
  have nd:∀ {l:List Item},IncI l→l.Nodup:=fun h=>h.imp fun hab e=>by subst e; omega
  have hp:l.Perm m:=(List.perm_ext_iff_of_nodup (nd h) (nd h')).2 fun s=>⟨fun hs=>by
    have:=mem_lkI h hs; rw [he] at this; exact lkI_mem this,fun hs=>by
    have:=mem_lkI h' hs; rw [←he] at this; exact lkI_mem this⟩
  exact sorted_eq hp h h' fun a b _ _ h1 h2=>by omega
def getO (o:Option Int):Int×Bool:=match o with | some v=>(v,true) | none=>(0,false)
def askF (f:List Int) (o:Bool) (i:Int):Bool:=hasF f i != o
def stepW (r:Int) (A B:Int→Option Int) (acc:Option Wide) (k:Int):Option Wide:=match A k,B k with | some a,some x=>cmb r acc (some (mulW r a x)) | _,_=>acc
def rowW (r:Int) (n:Nat) (A B:Int→Option Int):Option Wide:=(List.range n).foldl (fun acc (k:Nat)=>stepW r A B acc k) none
def sumsS (r:Int) (m n:Nat) (f:List Int) (o:Bool) (A:Int→Int→Option Int) (B:Int→Option Int):List Sum:=
  (List.range m).filterMap fun i:Nat=>if askF f o i then (rowW r n (A i) B).map fun w=>(⟨i,w⟩:Sum) else none
theorem sumsS_succ (r:Int) (m n:Nat) (f:List Int) (o:Bool) (A:Int→Int→Option Int) (B:Int→Option Int) :
    sumsS r (m+1) n f o A B=sumsS r m n f o A B++(if askF f o m then (rowW r n (A m) B).map fun w=>(⟨m,w⟩:Sum) else none).toList:=by
  unfold sumsS
  rw [List.range_succ,List.filterMap_append]
  congr 1
theorem stepW_okW {r:Int} {A B:Int→Option Int} {acc:Option Wide} (h:∀ w,acc=some w→okW w) (k:Int):∀ w,stepW r A B acc k=some w→okW w:=by
  intro w hw
  unfold stepW at hw
  split at hw
  · cases acc with
    | none=>cases hw; exact mulW_okW _ _ _
    | some b=>cases hw; exact addW_okW (h b rfl) (mulW_okW _ _ _)
  · exact h w hw
theorem rowW_okW (r:Int) (n:Nat) (A B:Int→Option Int):∀ w,rowW r n A B=some w→okW w:=by
  unfold rowW
  induction n with
  | zero=>intro w hw; cases hw
  | succ n ih=>rw [List.range_succ,List.foldl_append]; exact stepW_okW ih n
theorem sumsS_prop (r:Int) (n:Nat) (f:List Int) (o:Bool) (A:Int→Int→Option Int) (B:Int→Option Int):∀ m:Nat,
    Rise (sumsS r m n f o A B)∧(sumsS r m n f o A B).length≤m∧okS (sumsS r m n f o A B)∧(∀ s∈sumsS r m n f o A B,0≤s.At∧s.At<m)∧∀ i:Int,lk (sumsS r m n f o A B) i=if 0≤i∧i<m∧askF f o i=true then rowW r n (A i) B else none:=by
  intro m
  induction m with
  | zero=>
    refine ⟨.nil,by simp [sumsS],by simp [sumsS,okS],by simp [sumsS],fun i=>?_⟩
    rw [if_neg (by omega)]; rfl
  | succ m ih=>
    obtain ⟨h1,h2,h3,h4,h5⟩:=ih
    rw [sumsS_succ]
    by_cases ha:askF f o m=true
    · rw [if_pos ha]
      cases hw:rowW r n (A m) B with
      | none=>
        simp only [Option.map_none,Option.toList_none,List.append_nil]
        refine ⟨h1,by omega,h3,fun s hs=>by have:=h4 s hs; omega,fun i=>?_⟩
        rw [h5]
        by_cases e:i=m
        · subst e; rw [if_neg (by omega),hw]; simp
        · by_cases hi:0≤i∧i<m∧askF f o i=true
          · rw [if_pos hi,if_pos ⟨hi.1,by omega,hi.2.2⟩]
          · rw [if_neg hi,if_neg (fun h=>hi ⟨h.1,by omega,h.2.2⟩)]
      | some w=>
        simp only [Option.map_some,Option.toList_some]
        refine ⟨List.pairwise_append.2 ⟨h1,by simp,fun a ha' b hb=>?_⟩,by simp; omega,fun s hs=>?_,fun s hs=>?_,fun i=>?_⟩
        · simp only [List.mem_singleton] at hb; subst hb; exact (h4 a ha').2
        · rcases List.mem_append.1 hs with hs | hs
          · exact h3 s hs
          · simp only [List.mem_singleton] at hs; subst hs; exact rowW_okW r n _ _ w hw
        · rcases List.mem_append.1 hs with hs | hs
          · have:=h4 s hs; omega
          · simp only [List.mem_singleton] at hs; subst hs; simp only; omega
        · rw [lk_append,h5,lk_cons,lk_nil]
          by_cases e:i=m
          · subst e
            have c1:0≤(m:Int)∧(m:Int)<((m+1:Nat):Int)∧askF f o m=true:=⟨by omega,by omega,ha⟩
            rw [if_neg (fun h=>by omega),if_pos c1,hw]; simp
          · rw [if_neg e]
            by_cases hi:0≤i∧i<m∧askF f o i=true
            · rw [if_pos hi,if_pos ⟨hi.1,by omega,hi.2.2⟩]; split <;> simp_all
            · rw [if_neg hi,if_neg (fun h=>hi ⟨h.1,by omega,h.2.2⟩)]
    · rw [if_neg ha]
      simp only [Option.toList_none,List.append_nil]
      refine ⟨h1,by omega,h3,fun s hs=>by have:=h4 s hs; omega,fun i=>?_⟩
      rw [h5]
      by_cases e:i=m
      · subst e; rw [if_neg (by omega),if_neg (fun h=>ha h.2.2)]
      · by_cases hi:0≤i∧i<m∧askF f o i=true
        · rw [if_pos hi,if_pos ⟨hi.1,by omega,hi.2.2⟩]
        · rw [if_neg hi,if_neg (fun h=>hi ⟨h.1,by omega,h.2.2⟩)]
theorem foldl_same {β γ:Type} {f g:β→γ→β}:∀ {l:List γ} {a:β},(∀ acc k,k∈l→f acc k=g acc k)→l.foldl f a=l.foldl g a
  | [],_,_=>rfl
  | x :: l,a,h=>by rw [List.foldl_cons,List.foldl_cons,h a x (by simp)]; exact foldl_same fun acc k hk=>h acc k (by simp [hk])
theorem inc_fold {β:Type} {step:β→Int→Int→β} {a:β}:∀ {n:Nat} {l:List Item},IncI l→(∀ x∈l,0≤x.At∧x.At<n) →
    l.foldl (fun acc x=>step acc x.At x.Val) a=(List.range n).foldl (fun acc (k:Nat)=>match lkI l k with | some v=>step acc k v | none=>acc) a
  | 0,l,h,hi=>by
    cases l with
    | nil=>rfl
    | cons x l=>have:=hi x (by simp); omega
  | n+1,l,h,hi=>by
    rw [List.range_succ,List.foldl_append]
    simp only [List.foldl_cons,List.foldl_nil]
    have hc:l=[]∨∃ p y,l=p++[y]:=by
      rcases List.eq_nil_or_concat l with h | ⟨p,y,h⟩
      · exact .inl h
      · exact .inr ⟨p,y,by rw [h,List.concat_eq_append]⟩
    have old:∀ {l:List Item},IncI l→(∀ x∈l,0≤x.At∧x.At<n)→lkI l n=none:=fun _ hi=>lkI_none fun s hs=>by have:=hi s hs; omega
    rcases hc with e | ⟨p,y,e⟩
    · subst e
      rw [←inc_fold (n:=n) (l:=[]) h (by simp)]; rfl
    · subst e
      have hp:IncI p:=(List.pairwise_append.1 h).1
      have hlt:∀ x∈p,x.At<y.At:=fun x hx=>(List.pairwise_append.1 h).2.2 x hx y (by simp)
      by_cases ey:y.At=n
      · have hpin:∀ x∈p,0≤x.At∧x.At<n:=fun x hx=>⟨(hi x (by simp [hx])).1,by have:=hlt x hx; omega⟩
        have e1:lkI (p++[y]) n=some y.Val:=by rw [lkI_append,old hp hpin,lkI_cons,if_pos ey.symm]
        rw [e1,List.foldl_append,inc_fold hp hpin]
        simp only [List.foldl_cons,List.foldl_nil,ey]
        congr 1
        refine foldl_same fun acc k hk=>?_
        have hk:=List.mem_range.1 hk
        have:lkI (p++[y]) k=lkI p k:=by rw [lkI_append,lkI_cons,if_neg (by omega)]; cases lkI p k <;> rfl
        rw [this]
      · have hin:∀ x∈p++[y],0≤x.At∧x.At<n:=by
          intro x hx
          have h1:=hi x hx
          refine ⟨h1.1,?_⟩
          have hy:=hi y (by simp)
          rcases List.mem_append.1 hx with hx | hx
          · have:=hlt x hx; omega
          · simp only [List.mem_singleton] at hx; subst hx; omega
        rw [old h hin,inc_fold h hin]
def stepI (r:Int) (B:Int→Option Int) (acc:Option Wide) (y:Item):Option Wide:=match B y.At with | some x=>cmb r acc (some (mulW r y.Val x)) | none=>acc
theorem row_fold {r:Int} {B:Int→Option Int} {n:Nat} {l:List Item} (h:IncI l) (hi:∀ x∈l,0≤x.At∧x.At<n):l.foldl (stepI r B) none=rowW r n (lkI l) B:=by
  have:=inc_fold (step:=fun acc k a=>match B k with | some x=>cmb r acc (some (mulW r a x)) | none=>acc) (a:=none) h hi
  refine this.trans (foldl_same fun acc k _=>?_)
  unfold stepW
  cases lkI l (k:Int) <;> cases B (k:Int) <;> rfl
def rowI (ts:List Triple) (i:Int):List Item:=(segS ts i.toNat).map itS
def sumsR (r rows cols:Int) (ts:List Triple) (v:Vec) (f:List Int) (o:Bool):List Sum×Int:=
  if ¬(1≤r∧r≤5) then ([],8) else if v.N≠cols then ([],4) else (sumsS r rows.toNat cols.toNat f o (fun i=>lkI (rowI ts i)) (lkI v.Items),0)
def zS (r:Int):Int:=if r=1∨r=3∨r=4 then 4611686018427387904 else 0
theorem ring_Zero_ok {r:Int} {Q:Int→Prop} (hQ:Q (zS r)):ring_Zero r Q:=by
  unfold ring_Zero; unfold zS at hQ
  refine ifP_eq (fun h=>?_) (fun h=>ifP_eq (fun h3=>?_) (fun h3=>ifP_eq (fun h4=>?_) (fun h4=>?_)))
  · rwa [if_pos (.inl h)] at hQ
  · rwa [if_pos (.inr (.inl h3))] at hQ
  · rwa [if_pos (.inr (.inr h4))] at hQ
  · rwa [if_neg (by omega)] at hQ
theorem ref02_Zero_ok {r:Int} {Q:Int→Prop} (hQ:Q (zS r)):ref02_Zero r Q:=by
  unfold ref02_Zero ref02_least; unfold zS at hQ
  have h1:(r=1∨r=3∨r=4)→ifP true (Q 4611686018427387904) (Q 0):=fun h=>ifP_pos rfl (by rwa [if_pos h] at hQ)
  refine ifP_eq (fun h=>h1 (.inl h)) (fun h=>ifP_eq (fun h3=>h1 (.inr (.inl h3))) (fun h3=>ifP_eq (fun h4=>?_) (fun h4=>?_)))
  · rwa [if_pos (.inr (.inr h4))] at hQ
  · rwa [if_neg (by omega)] at hQ
def nzI (r:Int) (s:Sum):Option Item:=if (narS s.Val).1≠zS r then some ⟨s.At,(narS s.Val).1⟩ else none
def doneS (r n:Int) (l:List Sum):Vec×Int:=
  if ¬(1≤r∧r≤5) then (zV,8) else if ¬(0≤n∧n≤4096)∨∃ s∈l,¬(0≤s.At∧s.At<n) then (zV,3) else if ¬Rise l then (zV,6)
  else if ∃ s∈l,(narS s.Val).2=false then (zV,12) else (⟨n,l.filterMap (nzI r)⟩,0)
def nextS (f:List Int) (n:Int):Int:=((listF f).find? fun i=>decide (n≤i)).getD (-1)
theorem nextS_some {f:List Int} {n p:Int} (h:hasF f p=true) (hn:n≤p) (hm:∀ q,q<p→n≤q→hasF f q=false):nextS f n=p:=by
  have hp:=listF_mem.2 h
  have hinc:=listF_incr f
  have hmem:∀ q∈listF f,hasF f q=true:=fun q hq=>listF_mem.1 hq
  unfold nextS
  generalize listF f=l at hp hinc hmem
  induction l with
  | nil=>simp at hp
  | cons x l ih=>
    rw [List.pairwise_cons] at hinc
    rw [List.find?_cons]
    by_cases e:n≤x
    · rw [decide_eq_true e]
      simp only [Option.getD_some]
      rcases List.mem_cons.1 hp with e' | hp
      · exact e'.symm
      · have:=hinc.1 p hp
        have:=hm x (by omega) e
        rw [hmem x (by simp)] at this; cases this
    · rw [decide_eq_false e]
      rcases List.mem_cons.1 hp with e' | hp
      · omega
      · exact ih hp hinc.2 fun q hq=>hmem q (by simp [hq])
theorem nextS_none {f:List Int} {n:Int} (h:∀ q,n≤q→hasF f q=false):nextS f n = -1:=by
  unfold nextS
  rw [List.find?_eq_none.2]
  · rfl
  · intro q hq hd
    have:=h q (of_decide_eq_true hd)
    rw [listF_mem.1 hq] at this; cases this
theorem bnd_one {x:Int} (h0:0≤x) (h1:x<18446744073709551616):bnd .u64 x 1=x % 2:=by
  rw [bnd_nat h0 h1 (by omega) (by omega),show Int.toNat 1=1 from rfl,Nat.and_one_is_mod]; omega
theorem shr_one (x:Int):shr .u64 x 1=x / 2:=shr_u 1 (by omega)
theorem word_bit {f:List Int} (hf:okF f) {i j:Nat} (hj:j<64) {w:Int} (hw:w=at0 f i / 2 ^ j):(hasF f (64*i+j)=true↔w % 2=1):=by
  have hb:=okF_at hf i
  unfold hasF
  rw [show (64*(i:Int)+j) / 64=i by omega,show ((64*(i:Int)+j) % 64).toNat=j by omega]
  rw [Nat.testBit_eq_decide_div_mod_eq]
  have e:w=(((at0 f i).toNat / 2 ^ j:Nat):Int):=by
    rw [hw,Int.natCast_ediv,Int.natCast_pow,Int.toNat_of_nonneg hb.1]; rfl
  rw [e]
  simp only [show decide ((0:Int)≤64*i+j)=true by simp; omega,Bool.true_and,decide_eq_true_eq]
  omega
theorem word_zero {f:List Int} (hf:okF f) {i j k:Nat} (hjk:j≤k) (hk:k<64) {w:Int} (hw:w=at0 f i / 2 ^ j) (h0:w=0):hasF f (64*i+k)=false:=by
  have hb:=okF_at hf i
  unfold hasF
  rw [show (64*(i:Int)+k) / 64=i by omega,show ((64*(i:Int)+k) % 64).toNat=k by omega]
  have e:w=(((at0 f i).toNat / 2 ^ j:Nat):Int):=by
    rw [hw,Int.natCast_ediv,Int.natCast_pow,Int.toNat_of_nonneg hb.1]; rfl
  have hlt:(at0 f i).toNat<2 ^ j:=by
    have h0':(at0 f i).toNat / 2 ^ j=0:=by omega
    rcases Nat.div_eq_zero_iff.1 h0' with h | h
    · exact absurd h (Nat.ne_of_gt (Nat.pow_pos (by omega)))
    · exact h
  rw [Nat.testBit_lt_two_pow (Nat.lt_of_lt_of_le hlt (Nat.pow_le_pow_right (by omega) hjk))]
  simp
theorem word_half {f:List Int} {i j:Nat} {w:Int} (hw:w=at0 f i / 2 ^ j):w / 2=at0 f i / 2 ^ (j+1):=by
  rw [hw,Int.ediv_ediv_of_nonneg (by exact Int.le_of_lt (Int.pow_pos (by omega))),Int.pow_succ]
theorem flags_Next_ok {f:List Int} {n:Int} {Q:Int→Prop} (hf:okF f) (hl:f.length≤1000000) (hQ:Q (nextS f n)):flags_Next f n Q:=by
  unfold flags_Next flags_each_555 flags_each_1_6c7
  refine range_intro (s0:=((0:Int),(0:Nat))) (fun (s:Int×Nat) i=>(s.1,i,s.2)) 0 f.length (by omega) (fun k s=>s.2=0∧∀ q,q<64*(k:Int)→n≤q→hasF f q=false) (by omega) ⟨rfl,fun q hq _=>hasF_neg (by omega)⟩ (fun k s next _ hk hs hn=>?_) (fun s next hs=>?_)
  · obtain ⟨s1,s2⟩:=s
    obtain ⟨h1,h2⟩:=hs
    simp only at h1 h2 ⊢
    subst h1
    have hb:=okF_at hf k
    refine ifP_dec (fun _=>idxP_at0 (by omega) (by omega) ?_) (fun h=>by omega)
    have esh:shl .i64 (k:Int) 6=64*(k:Int):=by
      show w64 ((k:Int)*2 ^ 6)=_
      rw [w64_id (by omega) (by omega)]; omega
    rw [esh]
    refine loop_intro (fun s:Int×Int×Int×Nat=>∃ j:Nat,j≤64∧s.2.2.1=64*k+j∧s.2.1=at0 f k / 2 ^ j∧s.2.2.2=0∧∀ q,q<64*(k:Int)+j→n≤q→hasF f q=false) (fun s=>s.2.1.toNat) ⟨0,by omega,by simp,by simp,rfl,fun q hq=>h2 q (by omega)⟩ ?_
    rintro ⟨t1,w,at',t4⟩ nx ⟨j,hj,ha,hw,h4,h5⟩ hnx
    simp only at ha hw h4 h5 ⊢
    subst h4
    have hw0:0≤w∧w<18446744073709551616:=by
      rw [hw]
      have hp:(0:Int)<2 ^ j:=Int.pow_pos (by omega)
      exact ⟨Int.ediv_nonneg hb.1 (Int.le_of_lt hp),Int.lt_of_le_of_lt (Int.ediv_le_self _ hb.1) hb.2⟩
    have e1:w64 (at'+1)=64*(k:Int)+((j+1:Nat):Int):=by rw [ha,w64_id (by omega) (by omega)]; omega
    refine ifP_ne (fun hne=>?_) (fun he=>?_)
    · have hj64:j<64:=by
        rcases Nat.lt_or_ge j 64 with h | h
        · exact h
        · have:j=64:=by omega
          subst this
          exfalso; apply hne; rw [hw]
          exact Int.ediv_eq_zero_of_lt hb.1 hb.2
      have hbit:=word_bit hf hj64 hw
      rw [bnd_one hw0.1 hw0.2,shr_one,e1]
      refine ifP_eq (fun h1=>⟨rfl,ifP_dec (fun hge=>?_) (fun hlt=>?_)⟩) (fun h1=>?_)
      · refine ifP_pos rfl (ifP_neg (by simp) ⟨rfl,?_⟩)
        rw [nextS_some (p:=at') (by rw [ha]; exact hbit.2 h1) hge (fun q hq hnq=>h5 q (by omega) hnq)] at hQ
        exact hQ
      · refine ifP_neg rfl (hnx _ ⟨j+1,by omega,rfl,word_half hw,rfl,fun q hq hnq=>?_⟩ (by simp only; omega))
        rcases Int.lt_or_le q (64*(k:Int)+j) with h | h
        · exact h5 q h hnq
        · omega
      · refine hnx _ ⟨j+1,by omega,rfl,word_half hw,rfl,fun q hq hnq=>?_⟩ (by simp only; omega)
        rcases Int.lt_or_le q (64*(k:Int)+j) with h | h
        · exact h5 q h hnq
        · have:q=64*(k:Int)+j:=by omega
          subst this
          cases hc:hasF f (64*(k:Int)+j) with
          | false=>rfl
          | true=>exact absurd (hbit.1 hc) h1
    · refine hn (_,0) ⟨rfl,fun q hq hnq=>?_⟩
      rcases Int.lt_or_le q (64*(k:Int)+j) with h | h
      · exact h5 q h hnq
      · obtain ⟨m,rfl⟩:∃ m:Nat,q=64*(k:Int)+m:=⟨(q - 64*k).toNat,by omega⟩
        exact word_zero hf (j:=j) (by omega) (by omega) hw he
  · obtain ⟨s1,s2⟩:=s
    obtain ⟨h1,h2⟩:=hs
    simp only at h1 h2 ⊢
    subst h1
    refine ifP_dec (fun h=>by omega) (fun _=>ifP_pos rfl ?_)
    rw [nextS_none] at hQ
    · exact hQ
    · intro q hq
      rcases Int.lt_or_le q (64*(f.length:Int)) with h | h
      · exact h2 q h hq
      · exact hasF_over h
theorem nextS_neg {f:List Int} {n:Int} (h0:0≤n):nextS f n<0↔∀ i∈listF f,i<n:=by
  unfold nextS
  cases hc:(listF f).find? fun i=>decide (n≤i) with
  | none=>
    rw [List.find?_eq_none] at hc
    simp only [Option.getD_none]
    exact ⟨fun _ i hi=>by have:=hc i hi; simp at this; omega,fun _=>by omega⟩
  | some q=>
    have hq:=List.find?_some hc
    have hm:=List.mem_of_find?_eq_some hc
    have hq:=of_decide_eq_true hq
    simp only [Option.getD_some]
    exact ⟨fun h=>by omega,fun h=>by have:=h q hm; omega⟩
theorem flags_Right_ok {f:List Int} {n:Int} {Q:Bool→Prop} (hf:okF f) (hl:f.length≤1000000) (hQ:Q (decide (rightF f n))):flags_Right f n Q:=by
  unfold flags_Right
  have hno:¬rightF f n→Q false:=fun h=>by rwa [decide_eq_false h] at hQ
  refine ifP_dec (fun h0=>ifP_dec (fun h1=>flags_words_ok (ifP_eq (fun h2=>flags_Next_ok hf hl ?_) (fun h2=>hno fun h=>h2 (by rw [h.2.1])))) (fun h1=>hno fun h=>h1 h.1.2)) (fun h0=>hno fun h=>h0 h.1.1)
  have:decide (nextS f n<0)=decide (rightF f n):=decide_eq_decide.2 (by
    rw [nextS_neg h0]
    exact ⟨fun h=>⟨⟨h0,h1⟩,by omega,h⟩,fun h=>h.2.2⟩)
  rw [this]; exact hQ
def okO (o:Option Wide):Prop:=∀ w,o=some w→okW w
theorem lkI_iff {l:List Item} (h:IncI l) {i a:Int}:lkI l i=some a↔(⟨i,a⟩:Item)∈l:=⟨lkI_mem,fun hm=>mem_lkI h hm⟩
theorem opt_ext {x y:Option Int} (h:∀ a,x=some a↔y=some a):x=y:=by
  cases x with
  | none=>cases y with
    | none=>rfl
    | some b=>have:=(h b).2 rfl; cases this
  | some a=>exact ((h a).1 rfl).symm
end Go.Proofs.YtaefnmlbnkmahaaGreat
