import Derived.Test.YtccpfgdefibdnaaGreatCsrM
namespace Go.Proofs.YtccpfgdefibdnaaGreat
open Go Go.Fw
set_option linter.unusedVariables false
set_option linter.unusedSimpArgs false
def colI (T:List Triple) (k:Int):List Item:=(T.filter fun t=>decide (t.Row=k)).map itS
def kvM (s:Sum):Int×Wide:=(s.At,s.Val)
def lk (l:List Sum) (i:Int):Option Wide:=mget i (l.map kvM)
def Rise (l:List Sum):Prop:=l.Pairwise fun a b=>a.At<b.At
instance (l:List Sum):Decidable (Rise l):=by unfold Rise; infer_instance
def okS (l:List Sum):Prop:=∀ s∈l,okW s.Val
theorem lk_nil (i:Int):lk [] i=none:=rfl
theorem lk_cons (s:Sum) (l:List Sum) (i:Int):lk (s :: l) i=if i=s.At then some s.Val else lk l i:=rfl
theorem lk_append:∀ (l:List Sum) (m:List Sum) (i:Int),lk (l++m) i=match lk l i with | some v=>some v | none=>lk m i
  | [],m,i=>rfl
  | s :: l,m,i=>by
    rw [List.cons_append,lk_cons,lk_cons]
    split
    · rfl
    · exact lk_append l m i
theorem rise_adj {l:List Sum} (h:∀ (i:Nat) (hi:i+1<l.length),l[i].At<l[i+1].At):Rise l:=by
  unfold Rise
  rw [List.pairwise_iff_getElem]
  intro i j hi hj hij
  obtain ⟨d,rfl⟩:∃ d,j=i+1+d:=⟨j - i - 1,by omega⟩
  induction d with
  | zero=>exact h i (by omega)
  | succ d ih=>have h1:=ih (by omega) (by omega); have h2:=h (i+1+d) (by omega); exact Int.lt_trans h1 h2
theorem Rise.adj {l:List Sum} (h:Rise l) {i j:Nat} (hj:j<l.length) (hij:i<j):(l[i]'(by omega)).At<l[j].At:=by
  unfold Rise at h; rw [List.pairwise_iff_getElem] at h; exact h i j (by omega) hj hij
def cmb (r:Int):Option Wide→Option Wide→Option Wide
  | none,y=>y
  | some a,none=>some a
  | some a,some b=>some (addW r a b)
def ofZ (z:Int):Wide:=⟨w64 (z / 18446744073709551616),z % 18446744073709551616⟩
theorem ofZ_okW (z:Int):okW (ofZ z):=by unfold okW ofZ; simp only [w64_eq]; omega
theorem ofZ_add (x y:Int):addW 5 (ofZ x) (ofZ y)=ofZ (x+y):=by
  have e:addW 5 (ofZ x) (ofZ y)=⟨w64 ((ofZ x).Hi+(ofZ y).Hi+(if 18446744073709551616≤(ofZ x).Lo+(ofZ y).Lo then 1 else 0)),((ofZ x).Lo+(ofZ y).Lo) % 18446744073709551616⟩:=rfl
  rw [e]
  unfold ofZ
  apply wide_eta
  · simp only [w64_eq]; split <;> omega
  · simp only; omega
theorem ofI_ofZ {v:Int} (h:inI v):ofI v=ofZ v:=by
  unfold ofI ofZ inI at *
  apply wide_eta
  · simp only [w64_eq]; split <;> omega
  · rfl
theorem ofZ_nat {hi lo:Int} (h0:0≤lo) (h1:lo<18446744073709551616):(⟨w64 hi,lo⟩:Wide)=ofZ (hi*18446744073709551616+lo):=by
  unfold ofZ
  apply wide_eta
  · simp only [w64_eq]; omega
  · simp only; omega
theorem shr_u {x:Int} (k:Nat) (hk:k≤64):shr .u64 x k=x / 2 ^ k:=by
  unfold shr
  rw [Int.fdiv_eq_ediv_of_nonneg _ (Int.le_of_lt (Int.pow_pos (by omega)))]
  have:min (Int.toNat (k:Int)) (IntKind.bits .u64)=k:=by simp [IntKind.bits]; omega
  rw [this]
theorem shl_u {x:Int} (k:Nat) (hk:k≤64):shl .u64 x k=(x*2 ^ k) % 18446744073709551616:=by
  unfold shl
  rw [u64_eq]
  have:min (Int.toNat (k:Int)) (IntKind.bits .u64)=k:=by simp [IntKind.bits]; omega
  rw [this]
theorem ofInt_nat (x:Int) (h0:0≤x) (h1:x<18446744073709551616):(BitVec.ofInt 64 x).toNat=x.toNat:=by
  rw [BitVec.toNat_ofInt]
  congr 1
  exact Int.emod_eq_of_lt h0 (by simpa using h1)
theorem bor_nat {x y:Int} (hx0:0≤x) (hx1:x<18446744073709551616) (hy0:0≤y) (hy1:y<18446744073709551616):bor .u64 x y=((x.toNat ||| y.toNat:Nat):Int):=by
  unfold bor
  have e:(BitVec.ofInt (IntKind.bits .u64) x ||| BitVec.ofInt (IntKind.bits .u64) y).toNat=x.toNat ||| y.toNat:=by
    show (BitVec.ofInt 64 x ||| BitVec.ofInt 64 y).toNat=_
    rw [BitVec.toNat_or,ofInt_nat x hx0 hx1,ofInt_nat y hy0 hy1]
  rw [e,u64_eq]
  have:x.toNat ||| y.toNat<2 ^ 64:=Nat.or_lt_two_pow (by omega) (by omega)
  omega
theorem bnd_nat {x y:Int} (hx0:0≤x) (hx1:x<18446744073709551616) (hy0:0≤y) (hy1:y<18446744073709551616):bnd .u64 x y=((x.toNat &&& y.toNat:Nat):Int):=by
  unfold bnd
  have e:(BitVec.ofInt (IntKind.bits .u64) x &&& BitVec.ofInt (IntKind.bits .u64) y).toNat=x.toNat &&& y.toNat:=by
    show (BitVec.ofInt 64 x &&& BitVec.ofInt 64 y).toNat=_
    rw [BitVec.toNat_and,ofInt_nat x hx0 hx1,ofInt_nat y hy0 hy1]
  rw [e,u64_eq]
  have:x.toNat &&& y.toNat<2 ^ 64:=Nat.and_lt_two_pow _ (by omega)
  omega
theorem bor_halves {h l:Int} (hh0:0≤h) (hh1:h<4294967296) (hl0:0≤l) (hl1:l<4294967296):bor .u64 (h*4294967296) l=h*4294967296+l:=by
  rw [bor_nat (by omega) (by omega) hl0 (by omega)]
  have e:(h*4294967296).toNat=h.toNat <<< 32:=by rw [Nat.shiftLeft_eq]; omega
  rw [e,←Nat.shiftLeft_add_eq_or_of_lt (by omega),Nat.shiftLeft_eq]
  omega
theorem halves_ok {x:Int} {Q:Int×Int→Prop} (h0:0≤x) (h1:x<18446744073709551616) (hQ:Q (x % 4294967296,x / 4294967296)):wide_halves x Q:=by
  unfold wide_halves
  have e1:shl .u64 x 32=(x*4294967296) % 18446744073709551616:=shl_u 32 (by omega)
  have e2:∀ y,shr .u64 y 32=y / 4294967296:=fun y=>shr_u 32 (by omega)
  rw [e1,e2,e2]
  rwa [show x*4294967296 % 18446744073709551616 / 4294967296=x % 4294967296 by omega]
theorem product_ok {a b:Int} {Q:Wide→Prop} (ha0:0≤a) (ha1:a<18446744073709551616) (hb0:0≤b) (hb1:b<18446744073709551616) (hQ:Q (ofZ (a*b))):wide_product a b Q:=by
  unfold wide_product
  have hlt:∀ x y:Int,0≤x→x<4294967296→0≤y→y<4294967296→0≤x*y∧x*y≤18446744065119617025:=by
    intro x y h1 h2 h3 h4
    refine ⟨Int.mul_nonneg h1 h3,?_⟩
    have:=Int.mul_le_mul (show x≤4294967295 by omega) (show y≤4294967295 by omega) h3 (by omega)
    omega
  refine halves_ok ha0 ha1 (halves_ok hb0 hb1 ?_)
  simp only
  obtain ⟨x0,hx0⟩:∃ x0,x0=a % 4294967296:=⟨_,rfl⟩
  obtain ⟨x1,hx1⟩:∃ x1,x1=a / 4294967296:=⟨_,rfl⟩
  obtain ⟨y0,hy0⟩:∃ y0,y0=b % 4294967296:=⟨_,rfl⟩
  obtain ⟨y1,hy1⟩:∃ y1,y1=b / 4294967296:=⟨_,rfl⟩
  rw [←hx0,←hx1,←hy0,←hy1]
  have hab:a*b=x1*y1*18446744073709551616+(x1*y0+x0*y1)*4294967296+x0*y0:=by
    have e1:a=x1*4294967296+x0:=by omega
    have e2:b=y1*4294967296+y0:=by omega
    rw [e1,e2,Int.add_mul,Int.mul_add,Int.mul_add]
    have q1:x1*4294967296*(y1*4294967296)=x1*y1*18446744073709551616:=by rw [Int.mul_assoc,Int.mul_left_comm 4294967296 y1,←Int.mul_assoc x1]; rfl
    have q2:x1*4294967296*y0=x1*y0*4294967296:=Int.mul_right_comm _ _ _
    have q3:x0*(y1*4294967296)=x0*y1*4294967296:=(Int.mul_assoc _ _ _).symm
    rw [q1,q2,q3]; omega
  obtain ⟨b00,c00⟩:=hlt x0 y0 (by omega) (by omega) (by omega) (by omega)
  obtain ⟨b01,c01⟩:=hlt x0 y1 (by omega) (by omega) (by omega) (by omega)
  obtain ⟨b10,c10⟩:=hlt x1 y0 (by omega) (by omega) (by omega) (by omega)
  obtain ⟨b11,c11⟩:=hlt x1 y1 (by omega) (by omega) (by omega) (by omega)
  generalize x0*y0=p00 at *
  generalize x0*y1=p01 at *
  generalize x1*y0=p10 at *
  generalize x1*y1=p11 at *
  simp only [u64_eq]
  refine halves_ok (by omega) (by omega) ?_
  simp only
  refine halves_ok (by omega) (by omega) ?_
  simp only
  refine halves_ok (by omega) (by omega) (halves_ok (by omega) (by omega) ?_)
  simp only
  have e3:∀ y,shl .u64 y 32=(y*4294967296) % 18446744073709551616:=fun y=>shl_u 32 (by omega)
  rw [e3]
  have e4:∀ y:Int,(y % 4294967296*4294967296) % 18446744073709551616=y % 4294967296*4294967296:=fun y=>by omega
  rw [e4,bor_halves (by omega) (by omega) (by omega) (by omega),ofZ_nat (by omega) (by omega)]
  rw [hab] at hQ
  have hfin:ofZ (((((p11 % 18446744073709551616+(p10 % 18446744073709551616+p00 % 18446744073709551616 / 4294967296) % 18446744073709551616 / 4294967296) % 18446744073709551616+(p01 % 18446744073709551616+(p10 % 18446744073709551616+p00 % 18446744073709551616 / 4294967296) % 18446744073709551616 % 4294967296) % 18446744073709551616 / 4294967296) % 18446744073709551616)*18446744073709551616+((p01 % 18446744073709551616+(p10 % 18446744073709551616+p00 % 18446744073709551616 / 4294967296) % 18446744073709551616 % 4294967296) % 18446744073709551616 % 4294967296*4294967296+p00 % 18446744073709551616 % 4294967296)))=ofZ (p11*18446744073709551616+(p10+p01)*4294967296+p00):=by
    unfold ofZ
    apply wide_eta
    · simp only [w64_eq]; omega
    · simp only; omega
  rw [hfin]; exact hQ
theorem sub_ok {x:Int} {Q:Wide→Prop} (hQ:Q (ofZ (-x))):wide_Sub ⟨0,0⟩ (ofZ x) Q:=by
  unfold wide_Sub wide_carry
  have key:∀ c:Int,(c=if 0<(ofZ x).Lo then 1 else 0)→(⟨w64 ((((0 % 18446744073709551616) - ((ofZ x).Hi % 18446744073709551616)) % 18446744073709551616 - c) % 18446744073709551616),(0 - (ofZ x).Lo) % 18446744073709551616⟩:Wide)=ofZ (-x):=by
    intro c hc
    unfold ofZ at *
    subst hc
    apply wide_eta
    · simp only [w64_eq]; split <;> omega
    · simp only; omega
  simp only [u64_eq]
  refine ifP_dec (fun h=>?_) (fun h=>?_)
  · rw [key 1 (by rw [if_pos h])]; exact hQ
  · rw [key 0 (by rw [if_neg h])]; exact hQ
theorem wide_Mul_ok {a b:Int} {Q:Wide→Prop} (ha:inI a) (hb:inI b) (hQ:Q (ofZ (a*b))):wide_Mul a b Q:=by
  unfold wide_Mul
  unfold inI at ha hb
  have hs:∀ {x:Int} {K:Int→Prop},-9223372036854775808≤x∧x≤9223372036854775807→K (if x<0 then -x else x)→wide_size x K:=by
    intro x K hx hK
    unfold wide_size
    simp only [u64_eq]
    refine ifP_dec (fun h=>?_) (fun h=>?_)
    · rw [if_pos h] at hK; rwa [show (0 - x % 18446744073709551616) % 18446744073709551616 = -x by omega]
    · rw [if_neg h] at hK; rwa [show x % 18446744073709551616=x by omega]
  refine hs ha (hs hb ?_)
  have m1 : -a*b = -(a*b):=Int.neg_mul _ _
  have m2:a * -b = -(a*b):=Int.mul_neg _ _
  have m3 : -a * -b=a*b:=Int.neg_mul_neg _ _
  refine product_ok (by split <;> omega) (by split <;> omega) (by split <;> omega) (by split <;> omega) ?_
  by_cases h1:a<0 <;> by_cases h2:b<0
  · rw [if_pos h1,if_pos h2,m3]
    exact ifP_neg (by simp [h1,h2]) hQ
  · rw [if_pos h1,if_neg h2,m1]
    exact ifP_pos (by simp [h1,h2]) (sub_ok (by rwa [Int.neg_neg]))
  · rw [if_neg h1,if_pos h2,m2]
    exact ifP_pos (by simp [h1,h2]) (sub_ok (by rwa [Int.neg_neg]))
  · rw [if_neg h1,if_neg h2]
    exact ifP_neg (by simp [h1,h2]) hQ
def mulW (r a x:Int):Wide:=
  if r=2 then (if a≠0∧x≠0 then ⟨0,1⟩ else ⟨0,0⟩)
  else if r=5 then ofZ (a*x)
  else if r=1∨r=3∨r=4 then
    (if 4611686018427387904≤a∨4611686018427387904≤x then ofZ 4611686018427387904
     else if r=3 then ofZ a else if r=4 then ofZ x else if leW (ofZ 4611686018427387904) (ofZ (a+x)) then ofZ 4611686018427387904 else ofZ (a+x))
  else ⟨0,0⟩
theorem mulW_okW (r a x:Int):okW (mulW r a x):=by
  have h0:okW ⟨0,0⟩:=by unfold okW; simp
  have h1:okW ⟨0,1⟩:=by unfold okW; simp
  unfold mulW
  repeat' split
  all_goals first | exact ofZ_okW _ | exact h0 | exact h1
theorem leW_ofZ {x y:Int} (hx : -170141183460469231731687303715884105728≤x∧x<170141183460469231731687303715884105728) (hy : -170141183460469231731687303715884105728≤y∧y<170141183460469231731687303715884105728):leW (ofZ x) (ofZ y)↔x≤y:=by
  have h:∀ z:Int,-170141183460469231731687303715884105728≤z∧z<170141183460469231731687303715884105728→w64 (z / 18446744073709551616)=z / 18446744073709551616:=by
    intro z hz; rw [w64_eq]; omega
  unfold leW ofZ
  simp only [h x hx,h y hy]
  omega
theorem ring_Mul_ok {r a x:Int} {Q:Wide→Prop} (ha:inI a) (hx:inI x) (hQ:Q (mulW r a x)):ring_Mul r a x Q:=by
  unfold ring_Mul
  unfold mulW at hQ
  have ia:inI 4611686018427387904:=by unfold inI; omega
  refine ifP_eq (fun h=>?_) (fun h=>ifP_eq (fun h5=>?_) (fun h5=>?_))
  · rw [if_pos h] at hQ
    refine ifP_ne (fun h1=>truth_ok ?_) (fun h1=>truth_ok ?_)
    · simpa [h1] using hQ
    · simpa [h1] using hQ
  · rw [if_neg h,if_pos h5] at hQ
    exact wide_Mul_ok ha hx hQ
  · rw [if_neg h,if_neg h5] at hQ
    have emax:(if x > a then x else a)≥4611686018427387904↔4611686018427387904≤a∨4611686018427387904≤x:=by split <;> omega
    refine join_intro (fun _=>¬((1≤r∧r≤5)∧(4611686018427387904≤a∨4611686018427387904≤x))) ?_ ?_
    · rintro _ hno
      refine join_intro (fun p:Int×Int=>(⟨p.1,p.2⟩:Wide)=ofZ (if r=1 then a else 0)∧(r=1∨r=4)) ?_ ?_
      · rintro ⟨p1,p2⟩ ⟨hp,hr⟩
        simp only at hp ⊢
        refine wide_Of_ok ia (wide_Of_ok hx ?_)
        rw [hp,ofI_ofZ ia,ofI_ofZ hx]
        refine wide_Add_ok (ofZ_okW _) (ofZ_okW _) (lesser_ok ?_)
        rw [ofZ_add]
        rw [if_pos (by omega),if_neg (by omega),if_neg (by omega)] at hQ
        rcases hr with hr | hr
        · rw [if_pos hr]; rwa [if_neg (by omega)] at hQ
        · rw [if_neg (show ¬r=1 by omega),show (0:Int)+x=x by omega]
          rw [if_pos hr] at hQ
          unfold inI at hx
          rwa [if_neg (by rw [leW_ofZ (by omega) (by omega)]; omega)]
      · intro k hk
        refine ifP_eq (fun h1=>wide_Of_ok ha (hk _ ⟨?_,.inl h1⟩)) (fun h1=>ifP_eq (fun h4=>hk _ ⟨?_,.inr h4⟩) (fun h4=>ifP_eq (fun h3=>wide_Of_ok ha ?_) (fun h3=>?_)))
        · rw [if_pos h1]; exact ofI_ofZ ha
        · rw [if_neg h1]; decide
        · rw [if_pos (by omega),if_neg (by omega),if_pos h3] at hQ
          rw [ofI_ofZ ha]; exact hQ
        · rw [if_neg (by omega)] at hQ; exact hQ
    · intro k hk
      refine ring_Is_ok ⟨fun h1=>ifP_dec (fun h2=>wide_Of_ok ia ?_) (fun h2=>hk _ ?_),fun h1=>hk _ ?_⟩
      · have h1:=of_decide_eq_true h1
        rw [if_pos (by omega),if_pos (emax.1 h2)] at hQ
        rw [ofI_ofZ ia]; exact hQ
      · exact fun h'=>h2 (emax.2 h'.2)
      · exact fun h'=>of_decide_eq_false h1 h'.1
def okF (f:List Int):Prop:=∀ x∈f,0≤x∧x<18446744073709551616
def hasF (f:List Int) (i:Int):Bool:=decide (0≤i) && (at0 f (i / 64)).toNat.testBit (i % 64).toNat
theorem at0_over {f:List Int} {i:Int} (h:(f.length:Int)≤i):at0 f i=0:=by
  unfold at0
  rw [List.getD_eq_getElem?_getD,List.getElem?_eq_none (by omega)]; rfl
theorem okF_at {f:List Int} (h:okF f) (i:Int):0≤at0 f i∧at0 f i<18446744073709551616:=by
  by_cases e:i.toNat<f.length
  · have:at0 f i=f[i.toNat]:=by simp [at0,List.getD_eq_getElem?_getD,e]
    rw [this]; exact h _ (List.getElem_mem e)
  · have:at0 f i=0:=by unfold at0; rw [List.getD_eq_getElem?_getD,List.getElem?_eq_none (by omega)]; rfl
    rw [this]; omega
theorem hasF_over {f:List Int} {i:Int} (h:64*(f.length:Int)≤i):hasF f i=false:=by
  unfold hasF; rw [at0_over (by omega)]; simp
theorem hasF_neg {f:List Int} {i:Int} (h:i<0):hasF f i=false:=by
  unfold hasF; simp [show ¬0≤i by omega]
theorem hasF_in {f:List Int} {i:Int} (h:hasF f i=true):0≤i∧i<64*(f.length:Int):=by
  rcases Int.lt_or_le i 0 with h' | h'
  · rw [hasF_neg h'] at h; cases h
  · rcases Int.lt_or_le i (64*(f.length:Int)) with h2 | h2
    · exact ⟨h',h2⟩
    · rw [hasF_over h2] at h; cases h
theorem shr6 (i:Int):shr .i64 i 6=i / 64:=by
  unfold shr
  rw [Int.fdiv_eq_ediv_of_nonneg _ (by decide)]; rfl
theorem within_f_ok {f:List Int} {i:Int} {Q:Bool→Prop} (hQ:Q (decide (0≤i∧i / 64<f.length))):flags_within f i Q:=by
  unfold flags_within
  rw [shr6]
  refine ifP_dec (fun h=>?_) (fun h=>?_)
  · simpa [h] using hQ
  · simpa [h] using hQ
theorem pw_int (k:Nat):(2:Int) ^ k=((2 ^ k:Nat):Int):=by rw [Int.natCast_pow]; rfl
theorem pw_lt {k:Nat} (hk:k<64):(2:Nat) ^ k<18446744073709551616:=Nat.pow_lt_pow_right (n:=64) (a:=2) (by omega) hk
theorem one_shl {k:Nat} (hk:k<64):shl .u64 1 k=((2 ^ k:Nat):Int):=by
  rw [shl_u _ (by omega),Int.one_mul,pw_int]
  have hp:=pw_lt hk
  generalize 2 ^ k=p at *
  omega
theorem and_pw (x k:Nat):x &&& 2 ^ k=if x.testBit k then 2 ^ k else 0:=by
  apply Nat.eq_of_testBit_eq
  intro j
  rw [Nat.testBit_and,Nat.testBit_two_pow]
  by_cases e:k=j
  · subst e
    cases h:x.testBit k
    · simp
    · simp [Nat.testBit_two_pow]
  · cases h:x.testBit k
    · simp [e]
    · simp [e,Nat.testBit_two_pow]
theorem bit_ok {i:Int} {Q:Int→Prop} (h0:0≤i) (h1:i<18446744073709551616) (hQ:Q ((2 ^ (i % 64).toNat:Nat):Int)):flags_bit i Q:=by
  unfold flags_bit
  have e:bnd .u64 (IntKind.wrap .u64 i) 63=(((i % 64).toNat:Nat):Int):=by
    rw [u64_eq,show i % 18446744073709551616=i by omega,bnd_nat h0 h1 (by omega) (by omega)]
    congr 1
    rw [show Int.toNat 63=2 ^ 6 - 1 from rfl,Nat.and_two_pow_sub_one_eq_mod]
    omega
  rw [e]
  refine ⟨by omega,?_⟩
  rw [one_shl (by omega)]; exact hQ
theorem flags_Has_ok {f:List Int} {i:Int} {Q:Bool→Prop} (hf:okF f) (hi:inI i) (hQ:Q (hasF f i)):flags_Has f i Q:=by
  unfold flags_Has
  unfold inI at hi
  refine within_f_ok ⟨fun h=>?_,fun h=>?_⟩
  · have h:=of_decide_eq_true h
    rw [shr6]
    have hx:=okF_at hf (i / 64)
    refine idxP_at0 (by omega) h.2 (bit_ok h.1 (by omega) ?_)
    have hp:=pw_lt (k:=(i % 64).toNat) (by omega)
    have e:hasF f i=(at0 f (i / 64)).toNat.testBit (i % 64).toNat:=by unfold hasF; simp [h.1]
    rw [e] at hQ
    have hpos:0<(2:Nat) ^ (i % 64).toNat:=Nat.pow_pos (by omega)
    have ha:=and_pw (at0 f (i / 64)).toNat (i % 64).toNat
    generalize (i % 64).toNat=k at *
    rw [bnd_nat hx.1 hx.2 (Int.natCast_nonneg _) (by generalize 2 ^ k=p at *; omega),Int.toNat_natCast,ha]
    cases hb:(at0 f (i / 64)).toNat.testBit k with
    | false=>rw [hb] at hQ; simpa using hQ
    | true=>
      rw [hb] at hQ
      have e2:(((if (true:Bool)=true then 2 ^ k else 0:Nat):Int) != 0)=true:=by
        rw [if_pos rfl,bne_iff_ne]
        generalize 2 ^ k=p at *; omega
      rw [e2]; exact hQ
  · have h:=of_decide_eq_false h
    have e:hasF f i=false:=by
      rcases Int.lt_or_le i 0 with h' | h'
      · exact hasF_neg h'
      · exact hasF_over (by omega)
    rw [e] at hQ; exact hQ
def wordsS (n:Int):Nat:=((if 4096<(if n<0 then 0 else n) then 4096 else (if n<0 then 0 else n))+63).toNat / 64
def newF (n:Int):List Int:=List.replicate (wordsS n) 0
theorem words_le (n:Int):wordsS n≤64:=by unfold wordsS; split <;> split <;> omega
theorem words_in {n i:Int} (h0:0≤i) (hn:i<n) (h:i<4096):i / 64<wordsS n:=by unfold wordsS; split <;> split <;> omega
theorem words_out {n i:Int} (hn:i / 64<wordsS n):i<4096:=by unfold wordsS at hn; split at hn <;> split at hn <;> omega
theorem newF_ok (n:Int):okF (newF n):=by intro x hx; rw [newF,List.mem_replicate] at hx; omega
theorem newF_has (n i:Int):hasF (newF n) i=false:=by
  have:∀ k,at0 (newF n) k=0:=by
    intro k; unfold at0 newF
    rw [List.getD_eq_getElem?_getD,List.getElem?_replicate]; split <;> rfl
  unfold hasF; rw [this]; simp
theorem flags_words_ok {n:Int} {Q:Int→Prop} (hQ:Q (wordsS n)):flags_words n Q:=by
  unfold flags_words
  rw [shr6]
  have e:w64 ((if 4096<(if 0 > n then 0 else n) then 4096 else (if 0 > n then 0 else n))+63) / 64=(wordsS n:Int):=by
    unfold wordsS
    rw [w64_eq]
    split <;> split <;> omega
  rw [e]; exact hQ
theorem flags_New_ok {n:Int} {Q:List Int→Prop} (hQ:Q (newF n)):flags_New n Q:=by
  unfold flags_New
  refine flags_words_ok ⟨by omega,by have:=words_le n; omega,?_⟩
  simpa [newF] using hQ
def putF (f:List Int) (i:Int):List Int:=if 0≤i∧i / 64<f.length then f.set (i / 64).toNat (((at0 f (i / 64)).toNat ||| 2 ^ (i % 64).toNat:Nat):Int) else f
theorem putF_len (f:List Int) (i:Int):(putF f i).length=f.length:=by unfold putF; split <;> simp
theorem putF_ok {f:List Int} (h:okF f) (i:Int):okF (putF f i):=by
  unfold putF
  split
  · intro x hx
    rcases List.mem_or_eq_of_mem_set hx with hx | hx
    · exact h x hx
    · have hb:=okF_at h (i / 64)
      have hp:(2:Nat) ^ (i % 64).toNat<2 ^ 64:=Nat.pow_lt_pow_right (by omega) (by omega)
      have:=Nat.or_lt_two_pow (x:=(at0 f (i / 64)).toNat) (y:=2 ^ (i % 64).toNat) (n:=64) (by omega) hp
      omega
  · exact h
theorem putF_has {f:List Int} (i j:Int):hasF (putF f i) j=if j=i∧0≤i∧i / 64<f.length then true else hasF f j:=by
  unfold putF
  by_cases hc:0≤i∧i / 64<f.length
  · rw [if_pos hc]
    rcases Int.lt_or_le j 0 with hj | hj
    · rw [hasF_neg hj,if_neg (by omega),hasF_neg hj]
    · have hset:∀ v:Int,at0 (f.set (i / 64).toNat v) (j / 64)=if j / 64=i / 64 then v else at0 f (j / 64):=by
        intro v
        unfold at0
        rw [List.getD_eq_getElem?_getD,List.getD_eq_getElem?_getD]
        by_cases e:j / 64=i / 64
        · rw [if_pos e,e,List.getElem?_set_self (by omega)]; rfl
        · rw [if_neg e,List.getElem?_set_ne (by omega)]
      unfold hasF
      rw [hset]
      by_cases e:j / 64=i / 64
      · rw [if_pos e,Int.toNat_natCast,Nat.testBit_or,Nat.testBit_two_pow,e]
        by_cases e2:j=i
        · subst e2; simp [hc,hj]
        · have:¬(i % 64).toNat=(j % 64).toNat:=by omega
          simp [e2,this]
      · rw [if_neg e,if_neg (by intro h; exact e (by rw [h.1]))]
  · rw [if_neg hc,if_neg (fun h=>hc h.2)]
def ofF (n:Int) (l:List Int):List Int:=l.foldl (fun f i=>if 0≤i∧i<n∧i<4096 then putF f i else f) (newF n)
theorem ofF_snoc (n:Int) (l:List Int) (i:Int):ofF n (l++[i])=if 0≤i∧i<n∧i<4096 then putF (ofF n l) i else ofF n l:=by simp [ofF]
theorem ofF_prop (n:Int) (l:List Int):okF (ofF n l)∧(ofF n l).length=wordsS n∧∀ j,hasF (ofF n l) j=decide (j∈l∧0≤j∧j<n∧j<4096):=by
  suffices H:∀ k,k≤l.length→okF (ofF n (l.take k))∧(ofF n (l.take k)).length=wordsS n∧∀ j,hasF (ofF n (l.take k)) j=decide (j∈l.take k∧0≤j∧j<n∧j<4096) by
    have:=H l.length (by omega); rwa [List.take_length] at this
  intro k
  induction k with
  | zero=>intro _; exact ⟨newF_ok n,by simp [ofF,newF],fun j=>by simp [ofF,newF_has]⟩
  | succ k ih=>
    intro hk
    obtain ⟨h1,h2,h3⟩:=ih (by omega)
    rw [List.take_succ_eq_append_getElem (by omega),ofF_snoc]
    split
    · rename_i hc
      refine ⟨putF_ok h1 _,by rw [putF_len,h2],fun j=>?_⟩
      rw [putF_has,h2,h3]
      have hw:=words_in hc.1 hc.2.1 hc.2.2
      by_cases e:j=l[k]
      · subst e
        rw [if_pos ⟨rfl,hc.1,hw⟩]
        exact (decide_eq_true ⟨List.mem_append.2 (.inr (by simp)),hc⟩).symm
      · rw [if_neg (fun h=>e h.1)]
        refine decide_eq_decide.2 ?_
        rw [List.mem_append,List.mem_singleton]
        simp only [e,or_false]
    · rename_i hc
      refine ⟨h1,h2,fun j=>?_⟩
      rw [h3]
      refine decide_eq_decide.2 ?_
      rw [List.mem_append,List.mem_singleton]
      by_cases e:j=l[k]
      · subst e
        constructor
        · rintro ⟨q1,q2⟩; exact ⟨.inl q1,q2⟩
        · rintro ⟨_,q2⟩; exact absurd q2 hc
      · simp only [e,or_false]
theorem flags_Of_ok {n:Int} {l:List Int} {Q:List Int→Prop} (hl:l.length≤1000000000) (hi:∀ x∈l,inI x) (hQ:Q (ofF n l)):flags_Of n l Q:=by
  unfold flags_Of
  refine flags_New_ok (range_intro (fun (s:List Int) i=>(s,i)) 0 l.length (by omega) (fun k s=>s=ofF n (l.take k)) (by omega) (by simp [ofF]) (fun k s next _ hk hs hn=>?_) (fun s next hs=>?_))
  · subst hs
    have hsn:=ofF_snoc n (l.take k) l[k]
    rw [←List.take_succ_eq_append_getElem hk] at hsn
    obtain ⟨p1,p2,_⟩:=ofF_prop n (l.take k)
    have hik:=hi _ (List.getElem_mem hk)
    unfold inI at hik
    refine ifP_dec (fun _=>idxP_nat hk ?_) (fun h=>by omega)
    refine join_intro (fun b=>b=decide (l[k]<n∧0≤l[k]∧l[k] / 64<wordsS n)) ?_ ?_
    · rintro b rfl
      refine ifP_dec (fun h=>?_) (fun h=>hn _ ?_)
      · rw [shr6]
        refine idxP_at0 (by omega) (by rw [p2]; omega) (bit_ok h.2.1 (by omega) (idxP_at0 (by omega) (by rw [p2]; omega) (hn _ ?_)))
        have hb:=okF_at p1 (l[k] / 64)
        have hp:=pw_lt (k:=(l[k] % 64).toNat) (by omega)
        rw [hsn,if_pos ⟨h.2.1,h.1,words_out h.2.2⟩,putF,if_pos ⟨h.2.1,by rw [p2]; exact h.2.2⟩,bor_nat hb.1 hb.2 (Int.natCast_nonneg _) (by generalize 2 ^ (l[k] % 64).toNat=p at *; omega),Int.toNat_natCast]
      · rw [hsn,if_neg]
        intro h'
        exact h ⟨h'.2.1,h'.1,words_in h'.1 h'.2.1 h'.2.2⟩
    · intro k' hk'
      refine ifP_dec (fun h=>within_f_ok (hk' _ ?_)) (fun h=>hk' _ ?_)
      · rw [p2]; simp [h]
      · simp [h]
  · subst hs
    refine ifP_dec (fun h=>by omega) (fun _=>?_)
    rw [List.take_length]; exact hQ
def listF (f:List Int):List Int:=((List.range (64*f.length)).filter fun i:Nat=>hasF f i).map fun i:Nat=>(i:Int)
theorem listF_mem {f:List Int} {i:Int}:i∈listF f↔hasF f i=true:=by
  unfold listF
  simp only [List.mem_map,List.mem_filter,List.mem_range]
  constructor
  · rintro ⟨k,⟨_,h⟩,rfl⟩; exact h
  · intro h
    obtain ⟨h1,h2⟩:=hasF_in h
    exact ⟨i.toNat,⟨by omega,by rw [Int.toNat_of_nonneg h1]; exact h⟩,by omega⟩
theorem listF_incr (f:List Int):(listF f).Pairwise (· < ·):=by
  unfold listF
  rw [List.pairwise_map]
  exact List.Pairwise.imp (fun h=>by omega) (List.Pairwise.filter _ List.pairwise_lt_range)
def rightF (f:List Int) (n:Int):Prop:=(0≤n∧n≤4096)∧f.length=wordsS n∧∀ i∈listF f,i<n
instance (f:List Int) (n:Int):Decidable (rightF f n):=by unfold rightF; infer_instance
theorem ofF_right {n:Int} (h:0≤n∧n≤4096) (l:List Int):rightF (ofF n l) n:=by
  obtain ⟨h1,h2,h3⟩:=ofF_prop n l
  refine ⟨h,h2,fun i hi=>?_⟩
  rw [listF_mem,h3] at hi
  exact (of_decide_eq_true hi).2.2.1
def IncI (l:List Item):Prop:=l.Pairwise fun a b=>a.At<b.At
instance (l:List Item):Decidable (IncI l):=by unfold IncI; infer_instance
structure VecP (v:Vec):Prop where
  n0:0≤v.N
  n1:v.N≤4096
  inc:IncI v.Items
  ins:∀ x∈v.Items,0≤x.At∧x.At<v.N
instance (v:Vec):Decidable (VecP v):=decidable_of_iff (0≤v.N∧v.N≤4096∧IncI v.Items∧∀ x∈v.Items,0≤x.At∧x.At<v.N) ⟨fun ⟨a,b,c,d⟩=>⟨a,b,c,d⟩,fun ⟨a,b,c,d⟩=>⟨a,b,c,d⟩⟩
def zV:Vec:=⟨0,[]⟩
theorem zV_ok:VecP zV:=⟨by decide,by decide,.nil,by simp [zV]⟩
def sureV (v:Vec):Vec:=if VecP v then v else zV
theorem sureV_ok (v:Vec):VecP (sureV v):=by unfold sureV; split <;> first | assumption | exact zV_ok
theorem sureV_id {v:Vec} (h:VecP v):sureV v=v:=if_pos h
theorem inc_adj {l:List Item} (h:∀ (i:Nat) (hi:i+1<l.length),l[i].At<l[i+1].At):IncI l:=by
  unfold IncI
  rw [List.pairwise_iff_getElem]
  intro i j hi hj hij
  obtain ⟨d,rfl⟩:∃ d,j=i+1+d:=⟨j - i - 1,by omega⟩
  induction d with
  | zero=>exact h i (by omega)
  | succ d ih=>have h1:=ih (by omega) (by omega); have h2:=h (i+1+d) (by omega); exact Int.lt_trans h1 h2
theorem IncI.at {l:List Item} (h:IncI l) {i j:Nat} (hj:j<l.length) (hij:i<j):(l[i]'(by omega)).At<l[j].At:=by
  unfold IncI at h; rw [List.pairwise_iff_getElem] at h; exact h i j (by omega) hj hij
theorem incI_len {l:List Item} (h:IncI l) {n:Int} (hn:0≤n) (hi:∀ x∈l,0≤x.At∧x.At<n):(l.length:Int)≤n:=by
  have:∀ k (hk:k<l.length),(k:Int)≤l[k].At:=by
    intro k
    induction k with
    | zero=>intro hk; exact (hi _ (List.getElem_mem hk)).1
    | succ k ih=>intro hk; have:=ih (by omega); have:=h.at hk (i:=k) (by omega); omega
  rcases Nat.eq_zero_or_pos l.length with e | e
  · rw [e]; exact hn
  · have h1:=this (l.length - 1) (by omega)
    have h2:=hi _ (List.getElem_mem (show l.length - 1<l.length by omega))
    omega
theorem VecP.len {v:Vec} (h:VecP v):v.Items.length≤4096:=by have:=incI_len h.inc h.n0 h.ins; have:=h.n1; omega
theorem spvec_within_ok {x y:Int} {Q:Bool→Prop} (hQ:Q (decide (0≤x∧x≤y))):spvec_within x y Q:=by
  unfold spvec_within
  refine ifP_dec (fun h=>?_) (fun h=>?_)
  · simpa [h] using hQ
  · simpa [h] using hQ
theorem spvec_Right_ok {v:Vec} {Q:Bool→Prop} (hl:v.Items.length≤1000000000) (hQ:Q (decide (VecP v))):spvec_Right v Q:=by
  unfold spvec_Right
  have hno:¬VecP v→Q false:=fun h=>by rwa [decide_eq_false h] at hQ
  have hyes:VecP v→Q true:=fun h=>by rwa [decide_eq_true h] at hQ
  refine spvec_within_ok (ifP_not (fun h=>hno fun h'=>of_decide_eq_false h ⟨h'.n0,h'.n1⟩) (fun h=>?_))
  have h:=of_decide_eq_true h
  unfold slices_ContainsFunc_api_Item_api_Item_cd0 slices_IndexFunc_api_Item_api_Item_a3e
  refine range_intro (s0:=(-1:Int)) (fun (s:Int) i=>(s,i)) 0 v.Items.length (by omega) (fun k s=>(∀ (i:Nat) (hi:i+1<v.Items.length),i+1<k→v.Items[i].At<v.Items[i+1].At)∧(∀ i (hi:i<v.Items.length),i<k→0≤v.Items[i].At∧v.Items[i].At<v.N)∧(k=0→s = -1)∧(∀ (hk:0<k) (hl:k≤v.Items.length),s=(v.Items[k - 1]'(by omega)).At)) (by omega) ⟨fun i _ h=>by omega,fun i _ h=>by omega,fun _=>rfl,fun h=>by omega⟩ (fun k s next _ hk hs hn=>?_) (fun s next hs=>?_)
  · obtain ⟨h1,h2,h3,h4⟩:=hs
    refine ifP_dec (fun _=>idxP_nat hk ?_) (fun h=>by omega)
    unfold spvec_Right_1_81a
    have bad:¬VecP v→(fun r84:Bool×Int=>ifP r84.1 ((fun r17:Int×Int=>(fun r26:Bool×Int=>Q (!r26.1)) (decide (0≤r17.1),r17.2)) ((k:Int),r84.2)) (next (r84.2,w64 ((k:Int)+1)))) (true,v.Items[k].At):=by
      intro hn'
      refine ifP_pos rfl ?_
      simp only [show decide ((0:Int)≤(k:Int))=true by simp]
      exact hno hn'
    refine ifP_dec (fun h5=>bad fun hv=>?_) (fun h5=>?_)
    · rcases Nat.eq_zero_or_pos k with e | e
      · subst e
        rw [h3 rfl] at h5
        have:=(hv.ins _ (List.getElem_mem hk)).1; omega
      · rw [h4 e (by omega)] at h5
        have:=hv.inc.at hk (i:=k - 1) (by omega); omega
    · refine ⟨fun h6=>?_,fun h6=>hn _ ⟨fun i hi hik=>?_,fun i hi hik=>?_,fun h=>by omega,fun _ _=>by simp⟩⟩
      · have h6:=of_decide_eq_true h6
        simp only [show decide ((0:Int)≤(k:Int))=true by simp]
        exact hno fun hv=>by have:=(hv.ins _ (List.getElem_mem hk)).2; omega
      · by_cases e:i+1=k
        · subst e; rw [h4 (by omega) (by omega)] at h5; simp only [Nat.add_sub_cancel] at h5; omega
        · exact h1 i hi (by omega)
      · have h6:=of_decide_eq_false h6
        by_cases e:i=k
        · subst e
          refine ⟨?_,by omega⟩
          rcases Nat.eq_zero_or_pos i with e | e
          · rw [h3 e] at h5; omega
          · rw [h4 e (by omega)] at h5
            have:=(h2 (i - 1) (by omega) (by omega)).1; omega
        · exact h2 i hi (by omega)
  · obtain ⟨h1,h2,h3,h4⟩:=hs
    refine ifP_dec (fun h=>by omega) (fun _=>?_)
    simp only [show decide ((0:Int) ≤ -1)=false by decide]
    refine hyes ⟨h.1,h.2,inc_adj fun i hi=>h1 i hi (by omega),fun x hx=>?_⟩
    obtain ⟨i,hi,rfl⟩:=List.mem_iff_getElem.1 hx
    exact h2 i hi hi
theorem spvec_sure_ok {v:Vec} {Q:Vec→Prop} (hl:v.Items.length≤1000000000) (hQ:Q (sureV v)):spvec_sure v Q:=by
  unfold spvec_sure
  unfold sureV at hQ
  refine spvec_Right_ok hl (ifP_dec (fun h=>?_) (fun h=>?_))
  · rwa [if_pos h] at hQ
  · rwa [if_neg h] at hQ
theorem map_loop {α β:Type} {xs:List α} {f:α→β} {body:List β×Int→(List β×Int→Prop)→Prop} (hl:xs.length≤1000000000)
    (hs:∀ (i:Nat) (s:List β) (next:List β×Int→Prop) (hi:i<xs.length),s.length=i→(next (s++[f xs[i]],w64 ((i:Int)+1)))→body (s,(i:Int)) next)
    (he:∀ (next:List β×Int→Prop) s,s=xs.map f→body (s,(xs.length:Int)) next):loopP body ([],0):=by
  refine range_intro (fun (s:List β) i=>(s,i)) 0 xs.length (by omega) (fun k s=>s=(xs.take k).map f) (by omega) (by simp) (fun k s next _ hk hs' hn=>?_) (fun s next hs'=>?_)
  · refine hs k s next hk (by subst hs'; simp; omega) (hn _ ?_)
    subst hs'
    rw [List.take_succ_eq_append_getElem hk,List.map_append]; rfl
  · rw [List.take_length] at hs'
    exact he next s hs'
def placesS (v:Vec):List Int:=(sureV v).Items.map (·.At)
theorem spvec_Places_ok {v:Vec} {Q:List Int→Prop} (hl:v.Items.length≤1000000000) (hQ:Q (placesS v)):spvec_Places v Q:=by
  unfold spvec_Places
  have hvl:=(sureV_ok v).len
  refine spvec_sure_ok hl (map_loop (xs:=(sureV v).Items) (f:=(·.At)) (by omega) (fun i s next hi hs hn=>ifP_dec (fun _=>idxP_nat hi (appP_intro (by simp; omega) hn)) (fun h=>by omega)) (fun next s hs=>ifP_dec (fun h=>by omega) (fun _=>?_)))
  subst hs; exact hQ
def kvI (x:Item):Int×Int:=(x.At,x.Val)
def lkI (l:List Item) (i:Int):Option Int:=mget i (l.map kvI)
theorem lkI_cons (s:Item) (l:List Item) (i:Int):lkI (s :: l) i=if i=s.At then some s.Val else lkI l i:=rfl
theorem lkI_none:∀ {l:List Item} {i:Int},(∀ s∈l,s.At≠i)→lkI l i=none
  | [],_,_=>rfl
  | s :: l,i,h=>by rw [lkI_cons,if_neg (fun e=>h s (by simp) e.symm)]; exact lkI_none fun x hx=>h x (by simp [hx])
theorem lkI_mem:∀ {l:List Item} {i:Int} {v:Int},lkI l i=some v→⟨i,v⟩∈l
  | s :: l,i,v,h=>by
    rw [lkI_cons] at h
    split at h
    · rename_i e; cases h; subst e; simp
    · exact List.mem_cons_of_mem _ (lkI_mem h)
theorem mem_lkI:∀ {l:List Item} (h:IncI l) {s:Item},s∈l→lkI l s.At=some s.Val
  | x :: l,h,s,hs=>by
    unfold IncI at h
    rw [List.pairwise_cons] at h
    rw [lkI_cons]
    rcases List.mem_cons.1 hs with e | hs
    · subst e; rw [if_pos rfl]
    · have:=h.1 s hs
      rw [if_neg (by omega)]; exact mem_lkI h.2 hs
theorem lkI_append:∀ (l:List Item) (m:List Item) (i:Int),lkI (l++m) i=match lkI l i with | some v=>some v | none=>lkI m i
  | [],m,i=>rfl
  | s :: l,m,i=>by
    rw [List.cons_append,lkI_cons,lkI_cons]
    split
    · rfl
    · exact lkI_append l m i
def getO (o:Option Int):Int×Bool:=match o with | some v=>(v,true) | none=>(0,false)
def valsS (n:Nat) (l:List Item):List Int:=(List.range n).map fun i:Nat=>(lkI l i).getD 0
def denS (v:Vec):Dense:=⟨v.N,ofF v.N (v.Items.map (·.At)),valsS v.N.toNat v.Items⟩
theorem valsS_nil (n:Nat):valsS n []=List.replicate n 0:=by
  unfold valsS
  apply List.ext_getElem
  · simp
  · intro i h1 h2; simp [lkI,mget]
theorem valsS_snoc {n:Nat} {l:List Item} {x:Item} (h:∀ s∈l,s.At<x.At) (h0:0≤x.At):valsS n (l++[x])=(valsS n l).set x.At.toNat x.Val:=by
  unfold valsS
  rw [rm_set]
  refine List.map_congr_left fun i _=>?_
  rw [lkI_append,lkI_cons]
  by_cases e:i=x.At.toNat
  · subst e
    rw [if_pos rfl,lkI_none (fun s hs=>by have:=h s hs; omega)]
    simp only
    rw [if_pos (by omega)]; rfl
  · rw [if_neg e,if_neg (by omega)]
    split
    · rename_i v hv; rw [hv]
    · rename_i hv; rw [hv]; rfl
theorem IncI.before {l:List Item} (h:IncI l) {k:Nat} (hk:k<l.length):∀ s∈l.take k,s.At<l[k].At:=by
  intro s hs
  obtain ⟨j,hj,rfl⟩:=List.mem_iff_getElem.1 hs
  rw [List.length_take] at hj
  rw [List.getElem_take]
  exact h.at hk (by omega)
theorem at0_valsS {n:Nat} {l:List Item} {i:Int} (h0:0≤i) (h1:i<n):at0 (valsS n l) i=(lkI l i).getD 0:=by
  unfold valsS at0
  rw [List.getD_eq_getElem?_getD,List.getElem?_map,List.getElem?_range (by omega)]
  simp only [Option.map_some,Option.getD_some]
  rw [Int.toNat_of_nonneg h0]
theorem devec_New_ok {n:Int} {Q:Dense→Prop} (h:0≤n∧n≤4096) (hQ:Q ⟨n,newF n,List.replicate n.toNat 0⟩):devec_New n Q:=by
  unfold devec_New
  exact ifP_dec (fun h'=>by omega) (fun _=>ifP_dec (fun h'=>by omega) (fun _=>⟨by omega,by omega,flags_New_ok hQ⟩))
theorem devec_Of_ok {v:Vec} {Q:Dense→Prop} (hl:v.Items.length≤1000000000) (hQ:Q (denS (sureV v))):devec_Of v Q:=by
  unfold devec_Of
  refine spvec_Right_ok hl (ifP_not (fun h=>?_) (fun h=>?_))
  · have h:=of_decide_eq_false h
    rw [sureV,if_neg h] at hQ
    exact devec_New_ok ⟨by omega,by omega⟩ hQ
  · have hv:=of_decide_eq_true h
    rw [sureV_id hv] at hQ
    have hul:=hv.len
    have:=hv.n0; have:=hv.n1
    refine devec_New_ok ⟨by omega,by omega⟩ (range_intro (s0:=List.replicate v.N.toNat (0:Int)) (fun (s:List Int) i=>(s,i)) 0 v.Items.length (by omega) (fun k s=>s=valsS v.N.toNat (v.Items.take k)) (by omega) (by simp [valsS_nil]) (fun k s next _ hk hs hn=>?_) (fun s next hs=>?_))
    · have hin:=hv.ins _ (List.getElem_mem hk)
      refine ifP_dec (fun _=>idxP_nat hk (idxP_at0 (by omega) (by subst hs; simp [valsS]; omega) (hn _ ?_))) (fun h=>by omega)
      rw [List.take_succ_eq_append_getElem hk,valsS_snoc (hv.inc.before hk) hin.1,hs]
    · rw [List.take_length] at hs
      subst hs
      refine ifP_dec (fun h=>by omega) (fun _=>spvec_Places_ok hl (flags_Of_ok ?_ (fun x hx=>?_) ?_))
      · rw [placesS,sureV_id hv]; simp; omega
      · rw [placesS,sureV_id hv] at hx
        obtain ⟨y,hy,rfl⟩:=List.mem_map.1 hx
        have:=hv.ins y hy; unfold inI; omega
      · rw [placesS,sureV_id hv]; exact hQ
theorem den_has {v:Vec} (h:VecP v) (i:Int):hasF (denS v).Has i=(lkI v.Items i).isSome:=by
  have hn:=h.n1
  have e:=(ofF_prop v.N (v.Items.map (·.At))).2.2 i
  show hasF (ofF v.N (v.Items.map (·.At))) i=_
  rw [e]
  cases hlk:lkI v.Items i with
  | none=>
    refine decide_eq_false fun h'=>?_
    obtain ⟨x,hx,e⟩:=List.mem_map.1 h'.1
    have:=mem_lkI h.inc hx
    rw [e,hlk] at this; cases this
  | some y=>
    have hm:=lkI_mem hlk
    have:=h.ins _ hm
    simp only at this
    exact decide_eq_true ⟨List.mem_map.2 ⟨_,hm,rfl⟩,this.1,this.2,by omega⟩
theorem den_okF (v:Vec):okF (denS v).Has:=(ofF_prop _ _).1
theorem den_len (v:Vec):(denS v).Has.length≤64:=by rw [show (denS v).Has.length=wordsS v.N from (ofF_prop _ _).2.1]; exact words_le _
end Go.Proofs.YtccpfgdefibdnaaGreat
