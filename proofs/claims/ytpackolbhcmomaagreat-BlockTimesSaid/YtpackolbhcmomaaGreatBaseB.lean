import Derived.Test.YtpackolbhcmomaaGreatPushC
namespace Go.Proofs.YtpackolbhcmomaaGreat
open Go Go.Fw
set_option linter.unusedVariables false
set_option linter.unusedSimpArgs false
def ofZ (z:Int):Wide:=⟨w64 (z / 18446744073709551616),z % 18446744073709551616⟩
theorem ofZ_okW (z:Int):okW (ofZ z):=by unfold okW ofZ; simp only [w64_eq]; omega
theorem ofZ_add (x y:Int):addW 5 (ofZ x) (ofZ y)=ofZ (x+y):=by
  have e:addW 5 (ofZ x) (ofZ y)=⟨w64 ((ofZ x).Hi+(ofZ y).Hi+(if 18446744073709551616≤(ofZ x).Lo+(ofZ y).Lo then 1 else 0)),((ofZ x).Lo+(ofZ y).Lo) % 18446744073709551616⟩:=rfl
  rw [e]
  unfold ofZ
  apply wide_eta
  · simp only [w64_eq]; split <;> omega
  · simp only; omega
theorem ofI_ofZ {v:Int} (h:inI v):ofI v=ofZ v:=by
  unfold ofI ofZ inI at *
  apply wide_eta
  · simp only [w64_eq]; split <;> omega
  · rfl
theorem ofZ_nat {hi lo:Int} (h0:0≤lo) (h1:lo<18446744073709551616):(⟨w64 hi,lo⟩:Wide)=ofZ (hi*18446744073709551616+lo):=by
  unfold ofZ
  apply wide_eta
  · simp only [w64_eq]; omega
  · simp only; omega
theorem shr_u {x:Int} (k:Nat) (hk:k≤64):shr .u64 x k=x / 2 ^ k:=by
  unfold shr
  rw [Int.fdiv_eq_ediv_of_nonneg _ (Int.le_of_lt (Int.pow_pos (by omega)))]
  have:min (Int.toNat (k:Int)) (IntKind.bits .u64)=k:=by simp [IntKind.bits]; omega
  rw [this]
theorem shl_u {x:Int} (k:Nat) (hk:k≤64):shl .u64 x k=(x*2 ^ k) % 18446744073709551616:=by
  unfold shl
  rw [u64_eq]
  have:min (Int.toNat (k:Int)) (IntKind.bits .u64)=k:=by simp [IntKind.bits]; omega
  rw [this]
theorem ofInt_nat (x:Int) (h0:0≤x) (h1:x<18446744073709551616):(BitVec.ofInt 64 x).toNat=x.toNat:=by
  rw [BitVec.toNat_ofInt]
  congr 1
  exact Int.emod_eq_of_lt h0 (by simpa using h1)
theorem bor_nat {x y:Int} (hx0:0≤x) (hx1:x<18446744073709551616) (hy0:0≤y) (hy1:y<18446744073709551616):bor .u64 x y=((x.toNat ||| y.toNat:Nat):Int):=by
  unfold bor
  have e:(BitVec.ofInt (IntKind.bits .u64) x ||| BitVec.ofInt (IntKind.bits .u64) y).toNat=x.toNat ||| y.toNat:=by
    show (BitVec.ofInt 64 x ||| BitVec.ofInt 64 y).toNat=_
    rw [BitVec.toNat_or,ofInt_nat x hx0 hx1,ofInt_nat y hy0 hy1]
  rw [e,u64_eq]
  have:x.toNat ||| y.toNat<2 ^ 64:=Nat.or_lt_two_pow (by omega) (by omega)
  omega
theorem bnd_nat {x y:Int} (hx0:0≤x) (hx1:x<18446744073709551616) (hy0:0≤y) (hy1:y<18446744073709551616):bnd .u64 x y=((x.toNat &&& y.toNat:Nat):Int):=by
  unfold bnd
  have e:(BitVec.ofInt (IntKind.bits .u64) x &&& BitVec.ofInt (IntKind.bits .u64) y).toNat=x.toNat &&& y.toNat:=by
    show (BitVec.ofInt 64 x &&& BitVec.ofInt 64 y).toNat=_
    rw [BitVec.toNat_and,ofInt_nat x hx0 hx1,ofInt_nat y hy0 hy1]
  rw [e,u64_eq]
  have:x.toNat &&& y.toNat<2 ^ 64:=Nat.and_lt_two_pow _ (by omega)
  omega
theorem bor_halves {h l:Int} (hh0:0≤h) (hh1:h<4294967296) (hl0:0≤l) (hl1:l<4294967296):bor .u64 (h*4294967296) l=h*4294967296+l:=by
  rw [bor_nat (by omega) (by omega) hl0 (by omega)]
  have e:(h*4294967296).toNat=h.toNat <<< 32:=by rw [Nat.shiftLeft_eq]; omega
  rw [e,←Nat.shiftLeft_add_eq_or_of_lt (by omega),Nat.shiftLeft_eq]
  omega
theorem bxor_all {x:Int} (h0:0≤x) (h1:x<18446744073709551616):bxor .u64 18446744073709551615 x=18446744073709551615 - x:=by
  unfold bxor
  have e:(BitVec.ofInt (IntKind.bits .u64) 18446744073709551615 ^^^ BitVec.ofInt (IntKind.bits .u64) x).toNat=2 ^ 64 - 1 - x.toNat:=by
    show (BitVec.allOnes 64 ^^^ BitVec.ofInt 64 x).toNat=_
    rw [BitVec.allOnes_xor,BitVec.toNat_not,ofInt_nat x h0 h1]
  rw [e,u64_eq]
  omega
theorem bxor_neg {x:Int} (h:inI x):bxor .i64 (-1) x = -1 - x:=by
  unfold bxor
  have e:(BitVec.ofInt (IntKind.bits .i64) (-1) ^^^ BitVec.ofInt (IntKind.bits .i64) x).toNat=2 ^ 64 - 1 - (x % 18446744073709551616).toNat:=by
    show (BitVec.ofInt 64 (-1) ^^^ BitVec.ofInt 64 x).toNat=_
    rw [show BitVec.ofInt 64 (-1)=BitVec.allOnes 64 by decide,BitVec.allOnes_xor,BitVec.toNat_not,BitVec.toNat_ofInt]
    rfl
  rw [e]
  show w64 _=_
  rw [w64_eq]
  unfold inI at h
  omega
theorem halves_ok {x:Int} {Q:Int×Int→Prop} (h0:0≤x) (h1:x<18446744073709551616) (hQ:Q (x % 4294967296,x / 4294967296)):wide_halves x Q:=by
  unfold wide_halves
  have e1:shl .u64 x 32=(x*4294967296) % 18446744073709551616:=shl_u 32 (by omega)
  have e2:∀ y,shr .u64 y 32=y / 4294967296:=fun y=>shr_u 32 (by omega)
  rw [e1,e2,e2]
  rwa [show x*4294967296 % 18446744073709551616 / 4294967296=x % 4294967296 by omega]
theorem product_ok {a b:Int} {Q:Wide→Prop} (ha0:0≤a) (ha1:a<18446744073709551616) (hb0:0≤b) (hb1:b<18446744073709551616) (hQ:Q (ofZ (a*b))):wide_product a b Q:=by
  unfold wide_product
  have hlt:∀ x y:Int,0≤x→x<4294967296→0≤y→y<4294967296→0≤x*y∧x*y≤18446744065119617025:=by
    intro x y h1 h2 h3 h4
    refine ⟨Int.mul_nonneg h1 h3,?_⟩
    have:=Int.mul_le_mul (show x≤4294967295 by omega) (show y≤4294967295 by omega) h3 (by omega)
    omega
  refine halves_ok ha0 ha1 (halves_ok hb0 hb1 ?_)
  simp only
  obtain ⟨x0,hx0⟩:∃ x0,x0=a % 4294967296:=⟨_,rfl⟩
  obtain ⟨x1,hx1⟩:∃ x1,x1=a / 4294967296:=⟨_,rfl⟩
  obtain ⟨y0,hy0⟩:∃ y0,y0=b % 4294967296:=⟨_,rfl⟩
  obtain ⟨y1,hy1⟩:∃ y1,y1=b / 4294967296:=⟨_,rfl⟩
  rw [←hx0,←hx1,←hy0,←hy1]
  have hab:a*b=x1*y1*18446744073709551616+(x1*y0+x0*y1)*4294967296+x0*y0:=by
    have e1:a=x1*4294967296+x0:=by omega
    have e2:b=y1*4294967296+y0:=by omega
    rw [e1,e2,Int.add_mul,Int.mul_add,Int.mul_add]
    have q1:x1*4294967296*(y1*4294967296)=x1*y1*18446744073709551616:=by rw [Int.mul_assoc,Int.mul_left_comm 4294967296 y1,←Int.mul_assoc x1]; rfl
    have q2:x1*4294967296*y0=x1*y0*4294967296:=Int.mul_right_comm _ _ _
    have q3:x0*(y1*4294967296)=x0*y1*4294967296:=(Int.mul_assoc _ _ _).symm
    rw [q1,q2,q3]; omega
  obtain ⟨b00,c00⟩:=hlt x0 y0 (by omega) (by omega) (by omega) (by omega)
  obtain ⟨b01,c01⟩:=hlt x0 y1 (by omega) (by omega) (by omega) (by omega)
  obtain ⟨b10,c10⟩:=hlt x1 y0 (by omega) (by omega) (by omega) (by omega)
  obtain ⟨b11,c11⟩:=hlt x1 y1 (by omega) (by omega) (by omega) (by omega)
  generalize x0*y0=p00 at *
  generalize x0*y1=p01 at *
  generalize x1*y0=p10 at *
  generalize x1*y1=p11 at *
  simp only [u64_eq]
  refine halves_ok (by omega) (by omega) ?_
  simp only
  refine halves_ok (by omega) (by omega) ?_
  simp only
  refine halves_ok (by omega) (by omega) (halves_ok (by omega) (by omega) ?_)
  simp only
  have e3:∀ y,shl .u64 y 32=(y*4294967296) % 18446744073709551616:=fun y=>shl_u 32 (by omega)
  rw [e3]
  have e4:∀ y:Int,(y % 4294967296*4294967296) % 18446744073709551616=y % 4294967296*4294967296:=fun y=>by omega
  rw [e4,bor_halves (by omega) (by omega) (by omega) (by omega),ofZ_nat (by omega) (by omega)]
  rw [hab] at hQ
  have hfin:ofZ (((((p11 % 18446744073709551616+(p10 % 18446744073709551616+p00 % 18446744073709551616 / 4294967296) % 18446744073709551616 / 4294967296) % 18446744073709551616+(p01 % 18446744073709551616+(p10 % 18446744073709551616+p00 % 18446744073709551616 / 4294967296) % 18446744073709551616 % 4294967296) % 18446744073709551616 / 4294967296) % 18446744073709551616)*18446744073709551616+((p01 % 18446744073709551616+(p10 % 18446744073709551616+p00 % 18446744073709551616 / 4294967296) % 18446744073709551616 % 4294967296) % 18446744073709551616 % 4294967296*4294967296+p00 % 18446744073709551616 % 4294967296)))=ofZ (p11*18446744073709551616+(p10+p01)*4294967296+p00):=by
    unfold ofZ
    apply wide_eta
    · simp only [w64_eq]; omega
    · simp only; omega
  rw [hfin]; exact hQ
theorem okW_toZ {a:Wide} (h:okW a):a=ofZ (a.Hi*18446744073709551616+a.Lo):=by
  unfold okW at h
  rw [←ofZ_nat (by omega) (by omega)]
  apply wide_eta
  · simp only [w64_eq]; omega
  · rfl
theorem sub_ok {x:Int} {Q:Wide→Prop} (hQ:Q (ofZ (-x))):wide_Sub ⟨0,0⟩ (ofZ x) Q:=by
  unfold wide_Sub wide_carry
  have key:∀ c:Int,(c=if 0<(ofZ x).Lo then 1 else 0)→(⟨w64 ((((0 % 18446744073709551616) - ((ofZ x).Hi % 18446744073709551616)) % 18446744073709551616 - c) % 18446744073709551616),(0 - (ofZ x).Lo) % 18446744073709551616⟩:Wide)=ofZ (-x):=by
    intro c hc
    unfold ofZ at *
    subst hc
    apply wide_eta
    · simp only [w64_eq]; split <;> omega
    · simp only; omega
  simp only [u64_eq]
  refine ifP_dec (fun h=>?_) (fun h=>?_)
  · rw [key 1 (by rw [if_pos h])]; exact hQ
  · rw [key 0 (by rw [if_neg h])]; exact hQ
theorem wide_Mul_ok {a b:Int} {Q:Wide→Prop} (ha:inI a) (hb:inI b) (hQ:Q (ofZ (a*b))):wide_Mul a b Q:=by
  unfold wide_Mul
  unfold inI at ha hb
  have hs:∀ {x:Int} {K:Int→Prop},-9223372036854775808≤x∧x≤9223372036854775807→K (if x<0 then -x else x)→wide_size x K:=by
    intro x K hx hK
    unfold wide_size
    simp only [u64_eq]
    refine ifP_dec (fun h=>?_) (fun h=>?_)
    · rw [if_pos h] at hK; rwa [show (0 - x % 18446744073709551616) % 18446744073709551616 = -x by omega]
    · rw [if_neg h] at hK; rwa [show x % 18446744073709551616=x by omega]
  refine hs ha (hs hb ?_)
  have m1 : -a*b = -(a*b):=Int.neg_mul _ _
  have m2:a * -b = -(a*b):=Int.mul_neg _ _
  have m3 : -a * -b=a*b:=Int.neg_mul_neg _ _
  refine product_ok (by split <;> omega) (by split <;> omega) (by split <;> omega) (by split <;> omega) ?_
  by_cases h1:a<0 <;> by_cases h2:b<0
  · rw [if_pos h1,if_pos h2,m3]
    exact ifP_neg (by simp [h1,h2]) hQ
  · rw [if_pos h1,if_neg h2,m1]
    exact ifP_pos (by simp [h1,h2]) (sub_ok (by rwa [Int.neg_neg]))
  · rw [if_neg h1,if_pos h2,m2]
    exact ifP_pos (by simp [h1,h2]) (sub_ok (by rwa [Int.neg_neg]))
  · rw [if_neg h1,if_neg h2]
    exact ifP_neg (by simp [h1,h2]) hQ
theorem minus_ok {x:Int} {Q:Wide→Prop} (hQ:Q (ofZ (-x))):ref01_Minus (ofZ x) Q:=by
  unfold ref01_Minus
  have hx:=ofZ_okW x
  unfold okW at hx
  have e:(⟨bxor .i64 (-1) (ofZ x).Hi,bxor .u64 18446744073709551615 (ofZ x).Lo⟩:Wide)=ofZ (-x - 1):=by
    rw [bxor_neg (by unfold inI; omega),bxor_all (by omega) (by omega)]
    unfold ofZ
    apply wide_eta
    · simp only [w64_eq]; omega
    · simp only; omega
  have e1:(⟨0,1⟩:Wide)=ofZ 1:=by decide
  rw [e,e1]
  refine ref01_Add_ok (ofZ_okW _) (ofZ_okW _) ?_
  rw [ofZ_add,show -x - 1+1 = -x by omega]; exact hQ
theorem ref01_Mul_ok {a b:Int} {Q:Wide→Prop} (ha:inI a) (hb:inI b) (hQ:Q (ofZ (a*b))):ref01_Mul a b Q:=by
  unfold ref01_Mul
  have hb':=hb
  unfold inI at hb'
  refine ref01_Of_ok ha (join_intro (fun t:Int=>t=if b<0 then -b else b) ?_ ?_)
  · rintro t ht
    rw [ofI_ofZ ha]
    have ht0:0≤t∧t≤9223372036854775808:=by subst ht; split <;> omega
    refine loop_intro (fun s:Int×Int×Int×Int×Int=>∃ A z,(⟨s.1,s.2.1⟩:Wide)=ofZ A∧(⟨s.2.2.2.1,s.2.2.2.2⟩:Wide)=ofZ z∧0≤s.2.2.1∧s.2.2.1≤9223372036854775808∧z+A*s.2.2.1=a*t) (fun s=>s.2.2.1.toNat) ⟨a,0,rfl,(by decide:(⟨0,0⟩:Wide)=ofZ 0),ht0.1,ht0.2,by simp⟩ ?_
    rintro ⟨s1,s2,s3,s4,s5⟩ next ⟨A,z,hA,hz,h0,h1,he⟩ hn
    simp only at hA hz h0 h1 he ⊢
    have e2:IntKind.wrap .u64 (s3.tdiv 2)=s3 / 2:=by rw [u64_eq,Int.tdiv_eq_ediv_of_nonneg h0]; omega
    refine ifP_dec (fun hp=>ifP_eq (fun ho=>?_) (fun ho=>?_)) (fun hp=>?_)
    · rw [hz,hA]
      refine ref01_Add_ok (ofZ_okW _) (ofZ_okW _) (ref01_Add_ok (ofZ_okW _) (ofZ_okW _) ?_)
      rw [ofZ_add,ofZ_add,e2]
      rw [Int.tmod_eq_emod_of_nonneg h0] at ho
      refine hn _ ⟨A+A,z+A,rfl,rfl,by simp only; omega,by simp only; omega,?_⟩ (by simp only; omega)
      simp only
      obtain ⟨m,hm⟩:∃ m,s3=2*m+1:=⟨s3 / 2,by omega⟩
      rw [show s3 / 2=m by omega,←he,hm,Int.add_mul,Int.mul_add,Int.mul_one,Int.mul_left_comm]; omega
    · rw [hA]
      refine ref01_Add_ok (ofZ_okW _) (ofZ_okW _) ?_
      rw [ofZ_add,e2]
      rw [Int.tmod_eq_emod_of_nonneg h0] at ho
      refine hn _ ⟨A+A,z,rfl,hz,by simp only; omega,by simp only; omega,?_⟩ (by simp only; omega)
      simp only
      obtain ⟨m,hm⟩:∃ m,s3=2*m:=⟨s3 / 2,by omega⟩
      rw [show s3 / 2=m by omega,←he,hm,Int.add_mul,Int.mul_left_comm]; omega
    · have e0:s3=0:=by omega
      subst e0
      rw [Int.mul_zero,Int.add_zero] at he
      rw [hz,he]
      refine ifP_dec (fun h=>minus_ok ?_) (fun h=>?_)
      · rw [ht,if_pos h,Int.mul_neg,Int.neg_neg]; exact hQ
      · rw [ht,if_neg h]; exact hQ
  · intro k hk
    simp only [u64_eq]
    refine ifP_dec (fun h=>hk _ ?_) (fun h=>hk _ ?_)
    · rw [if_pos h]; omega
    · rw [if_neg h]; omega
def mulW (r a x:Int):Wide:=
  if r=2 then (if a≠0∧x≠0 then ⟨0,1⟩ else ⟨0,0⟩)
  else if r=5 then ofZ (a*x)
  else if r=1∨r=3∨r=4 then
    (if 4611686018427387904≤a∨4611686018427387904≤x then ofZ 4611686018427387904
     else if r=3 then ofZ a else if r=4 then ofZ x else if leW (ofZ 4611686018427387904) (ofZ (a+x)) then ofZ 4611686018427387904 else ofZ (a+x))
  else ⟨0,0⟩
theorem mulW_okW (r a x:Int):okW (mulW r a x):=by
  have h0:okW ⟨0,0⟩:=by unfold okW; simp
  have h1:okW ⟨0,1⟩:=by unfold okW; simp
  unfold mulW
  repeat' split
  all_goals first | exact ofZ_okW _ | exact h0 | exact h1
theorem leW_ofZ {x y:Int} (hx : -170141183460469231731687303715884105728≤x∧x<170141183460469231731687303715884105728) (hy : -170141183460469231731687303715884105728≤y∧y<170141183460469231731687303715884105728):leW (ofZ x) (ofZ y)↔x≤y:=by
  have h:∀ z:Int,-170141183460469231731687303715884105728≤z∧z<170141183460469231731687303715884105728→w64 (z / 18446744073709551616)=z / 18446744073709551616:=by
    intro z hz; rw [w64_eq]; omega
  unfold leW ofZ
  simp only [h x hx,h y hy]
  omega
theorem ring_Mul_ok {r a x:Int} {Q:Wide→Prop} (ha:inI a) (hx:inI x) (hQ:Q (mulW r a x)):ring_Mul r a x Q:=by
  unfold ring_Mul
  unfold mulW at hQ
  have ia:inI 4611686018427387904:=by unfold inI; omega
  refine ifP_eq (fun h=>?_) (fun h=>ifP_eq (fun h5=>?_) (fun h5=>?_))
  · rw [if_pos h] at hQ
    refine ifP_ne (fun h1=>truth_ok ?_) (fun h1=>truth_ok ?_)
    · simpa [h1] using hQ
    · simpa [h1] using hQ
  · rw [if_neg h,if_pos h5] at hQ
    exact wide_Mul_ok ha hx hQ
  · rw [if_neg h,if_neg h5] at hQ
    have emax:(if x > a then x else a)≥4611686018427387904↔4611686018427387904≤a∨4611686018427387904≤x:=by split <;> omega
    refine join_intro (fun _=>¬((1≤r∧r≤5)∧(4611686018427387904≤a∨4611686018427387904≤x))) ?_ ?_
    · rintro _ hno
      refine join_intro (fun p:Int×Int=>(⟨p.1,p.2⟩:Wide)=ofZ (if r=1 then a else 0)∧(r=1∨r=4)) ?_ ?_
      · rintro ⟨p1,p2⟩ ⟨hp,hr⟩
        simp only at hp ⊢
        refine wide_Of_ok ia (wide_Of_ok hx ?_)
        rw [hp,ofI_ofZ ia,ofI_ofZ hx]
        refine wide_Add_ok (ofZ_okW _) (ofZ_okW _) (lesser_ok ?_)
        rw [ofZ_add]
        rw [if_pos (by omega),if_neg (by omega),if_neg (by omega)] at hQ
        rcases hr with hr | hr
        · rw [if_pos hr]; rwa [if_neg (by omega)] at hQ
        · rw [if_neg (show ¬r=1 by omega),show (0:Int)+x=x by omega]
          rw [if_pos hr] at hQ
          unfold inI at hx
          rwa [if_neg (by rw [leW_ofZ (by omega) (by omega)]; omega)]
      · intro k hk
        refine ifP_eq (fun h1=>wide_Of_ok ha (hk _ ⟨?_,.inl h1⟩)) (fun h1=>ifP_eq (fun h4=>hk _ ⟨?_,.inr h4⟩) (fun h4=>ifP_eq (fun h3=>wide_Of_ok ha ?_) (fun h3=>?_)))
        · rw [if_pos h1]; exact ofI_ofZ ha
        · rw [if_neg h1]; decide
        · rw [if_pos (by omega),if_neg (by omega),if_pos h3] at hQ
          rw [ofI_ofZ ha]; exact hQ
        · rw [if_neg (by omega)] at hQ; exact hQ
    · intro k hk
      refine ring_Is_ok ⟨fun h1=>ifP_dec (fun h2=>wide_Of_ok ia ?_) (fun h2=>hk _ ?_),fun h1=>hk _ ?_⟩
      · have h1:=of_decide_eq_true h1
        rw [if_pos (by omega),if_pos (emax.1 h2)] at hQ
        rw [ofI_ofZ ia]; exact hQ
      · exact fun h'=>h2 (emax.2 h'.2)
      · exact fun h'=>of_decide_eq_false h1 h'.1
theorem ref01_cmp3 {a b:Wide} {Q:Int→Prop} (h1:¬leW b a→Q (-1)) (h2:a=b→Q 0) (h3:¬leW a b→Q 1):ref01_Compare a b Q:=by
  unfold ref01_Compare
  refine join_intro (fun _=>leW b a) (fun _ hb=>ifP_eq h2 (fun e=>h3 fun hab=>e ?_)) fun k hk=>?_
  · unfold leW at hb hab; exact wide_eta (by omega) (by omega)
  · refine ifP_dec (fun h=>h1 ?_) (fun h=>ifP_eq (fun e=>ifP_dec (fun h'=>h1 ?_) (fun h'=>hk () ?_)) (fun e=>hk () ?_))
    all_goals (unfold leW; omega)
theorem ref02_Mul_ok {r a x:Int} {Q:Wide→Prop} (ha:inI a) (hx:inI x) (hQ:Q (mulW r a x)):ref02_Mul r a x Q:=by
  unfold ref02_Mul
  unfold mulW at hQ
  have ia:inI 4611686018427387904:=by unfold inI; omega
  refine join_intro (fun b:Bool=>b=decide (4611686018427387904≤a∨4611686018427387904≤x)) ?_ ?_
  · rintro b rfl
    refine ifP_eq (fun h1=>?_) (fun h1=>ifP_eq (fun h3=>?_) (fun h3=>ifP_eq (fun h4=>?_) (fun h4=>ifP_eq (fun h2=>?_) (fun h2=>ifP_eq (fun h5=>?_) (fun h5=>?_)))))
    · rw [if_neg (by omega),if_neg (by omega),if_pos (by omega)] at hQ
      refine ref01_Of_ok ha (ref01_Of_ok hx ?_)
      rw [ofI_ofZ ha,ofI_ofZ hx]
      refine ref01_Add_ok (ofZ_okW _) (ofZ_okW _) ?_
      rw [ofZ_add]
      refine ifP_dec (fun h=>ref01_Of_ok ia ?_) (fun h=>ref01_Of_ok ia ?_)
      · rw [if_pos h] at hQ; rw [ofI_ofZ ia]; exact hQ
      · rw [if_neg h,if_neg (by omega),if_neg (by omega)] at hQ
        rw [ofI_ofZ ia]
        unfold inI at ha hx
        have hb:leW (ofZ 4611686018427387904) (ofZ (a+x))↔4611686018427387904≤a+x:=leW_ofZ (by omega) (by omega)
        have hc:leW (ofZ (a+x)) (ofZ 4611686018427387904)↔a+x≤4611686018427387904:=leW_ofZ (by omega) (by omega)
        refine ref01_cmp3 (fun hlt=>ifP_dec (fun h'=>by omega) (fun _=>?_)) (fun he=>ifP_dec (fun h'=>by omega) (fun _=>?_)) (fun hgt=>ifP_dec (fun _=>ref01_Of_ok ia ?_) (fun h'=>by omega))
        · rwa [if_neg hlt] at hQ
        · rw [if_pos (by rw [he]; unfold leW; omega)] at hQ; rwa [he]
        · rw [if_pos (by rw [hb]; rw [hc] at hgt; omega)] at hQ; rw [ofI_ofZ ia]; exact hQ
    · rw [if_neg (by omega),if_neg (by omega),if_pos (by omega)] at hQ
      refine ifP_dec (fun h=>ref01_Of_ok ia ?_) (fun h=>ref01_Of_ok ha ?_)
      · rw [if_pos h] at hQ; rw [ofI_ofZ ia]; exact hQ
      · rw [if_neg h,if_pos h3] at hQ; rw [ofI_ofZ ha]; exact hQ
    · rw [if_neg (by omega),if_neg (by omega),if_pos (by omega)] at hQ
      refine ifP_dec (fun h=>ref01_Of_ok ia ?_) (fun h=>ref01_Of_ok hx ?_)
      · rw [if_pos h] at hQ; rw [ofI_ofZ ia]; exact hQ
      · rw [if_neg h,if_neg (by omega),if_pos h4] at hQ; rw [ofI_ofZ hx]; exact hQ
    · rw [if_pos h2] at hQ
      refine ifP_ne (fun h1=>ref02_truth_ok ?_) (fun h1=>ref02_truth_ok ?_)
      · simpa [h1] using hQ
      · simpa [h1] using hQ
    · rw [if_neg h2,if_pos h5] at hQ
      exact ref01_Mul_ok ha hx hQ
    · rw [if_neg h2,if_neg h5,if_neg (by omega)] at hQ; exact hQ
  · intro k hk
    refine ifP_dec (fun h=>hk _ ?_) (fun h=>hk _ ?_)
    · simp [h]
    · simp [h]
def okF (f:List Int):Prop:=∀ x∈f,0≤x∧x<18446744073709551616
def hasF (f:List Int) (i:Int):Bool:=decide (0≤i) && (at0 f (i / 64)).toNat.testBit (i % 64).toNat
theorem at0_over {f:List Int} {i:Int} (h:(f.length:Int)≤i):at0 f i=0:=by
  unfold at0
  rw [List.getD_eq_getElem?_getD,List.getElem?_eq_none (by omega)]; rfl
theorem okF_at {f:List Int} (h:okF f) (i:Int):0≤at0 f i∧at0 f i<18446744073709551616:=by
  by_cases e:i.toNat<f.length
  · have:at0 f i=f[i.toNat]:=by simp [at0,List.getD_eq_getElem?_getD,e]
    rw [this]; exact h _ (List.getElem_mem e)
  · have:at0 f i=0:=by unfold at0; rw [List.getD_eq_getElem?_getD,List.getElem?_eq_none (by omega)]; rfl
    rw [this]; omega
theorem hasF_over {f:List Int} {i:Int} (h:64*(f.length:Int)≤i):hasF f i=false:=by
  unfold hasF; rw [at0_over (by omega)]; simp
theorem hasF_neg {f:List Int} {i:Int} (h:i<0):hasF f i=false:=by
  unfold hasF; simp [show ¬0≤i by omega]
theorem hasF_in {f:List Int} {i:Int} (h:hasF f i=true):0≤i∧i<64*(f.length:Int):=by
  rcases Int.lt_or_le i 0 with h' | h'
  · rw [hasF_neg h'] at h; cases h
  · rcases Int.lt_or_le i (64*(f.length:Int)) with h2 | h2
    · exact ⟨h',h2⟩
    · rw [hasF_over h2] at h; cases h
theorem shr6 (i:Int):shr .i64 i 6=i / 64:=by
  unfold shr
  rw [Int.fdiv_eq_ediv_of_nonneg _ (by decide)]; rfl
theorem within_f_ok {f:List Int} {i:Int} {Q:Bool→Prop} (hQ:Q (decide (0≤i∧i / 64<f.length))):flags_within f i Q:=by
  unfold flags_within
  rw [shr6]
  refine ifP_dec (fun h=>?_) (fun h=>?_)
  · simpa [h] using hQ
  · simpa [h] using hQ
theorem pw_int (k:Nat):(2:Int) ^ k=((2 ^ k:Nat):Int):=by rw [Int.natCast_pow]; rfl
theorem pw_lt {k:Nat} (hk:k<64):(2:Nat) ^ k<18446744073709551616:=Nat.pow_lt_pow_right (n:=64) (a:=2) (by omega) hk
theorem one_shl {k:Nat} (hk:k<64):shl .u64 1 k=((2 ^ k:Nat):Int):=by
  rw [shl_u _ (by omega),Int.one_mul,pw_int]
  have hp:=pw_lt hk
  generalize 2 ^ k=p at *
  omega
theorem and_pw (x k:Nat):x &&& 2 ^ k=if x.testBit k then 2 ^ k else 0:=by
  apply Nat.eq_of_testBit_eq
  intro j
  rw [Nat.testBit_and,Nat.testBit_two_pow]
  by_cases e:k=j
  · subst e
    cases h:x.testBit k
    · simp
    · simp [Nat.testBit_two_pow]
  · cases h:x.testBit k
    · simp [e]
    · simp [e,Nat.testBit_two_pow]
theorem bit_ok {i:Int} {Q:Int→Prop} (h0:0≤i) (h1:i<18446744073709551616) (hQ:Q ((2 ^ (i % 64).toNat:Nat):Int)):flags_bit i Q:=by
  unfold flags_bit
  have e:bnd .u64 (IntKind.wrap .u64 i) 63=(((i % 64).toNat:Nat):Int):=by
    rw [u64_eq,show i % 18446744073709551616=i by omega,bnd_nat h0 h1 (by omega) (by omega)]
    congr 1
    rw [show Int.toNat 63=2 ^ 6 - 1 from rfl,Nat.and_two_pow_sub_one_eq_mod]
    omega
  rw [e]
  refine ⟨by omega,?_⟩
  rw [one_shl (by omega)]; exact hQ
theorem flags_Has_ok {f:List Int} {i:Int} {Q:Bool→Prop} (hf:okF f) (hi:inI i) (hQ:Q (hasF f i)):flags_Has f i Q:=by
  unfold flags_Has
  unfold inI at hi
  refine within_f_ok ⟨fun h=>?_,fun h=>?_⟩
  · have h:=of_decide_eq_true h
    rw [shr6]
    have hx:=okF_at hf (i / 64)
    refine idxP_at0 (by omega) h.2 (bit_ok h.1 (by omega) ?_)
    have hp:=pw_lt (k:=(i % 64).toNat) (by omega)
    have e:hasF f i=(at0 f (i / 64)).toNat.testBit (i % 64).toNat:=by unfold hasF; simp [h.1]
    rw [e] at hQ
    have hpos:0<(2:Nat) ^ (i % 64).toNat:=Nat.pow_pos (by omega)
    have ha:=and_pw (at0 f (i / 64)).toNat (i % 64).toNat
    generalize (i % 64).toNat=k at *
    rw [bnd_nat hx.1 hx.2 (Int.natCast_nonneg _) (by generalize 2 ^ k=p at *; omega),Int.toNat_natCast,ha]
    cases hb:(at0 f (i / 64)).toNat.testBit k with
    | false=>rw [hb] at hQ; simpa using hQ
    | true=>
      rw [hb] at hQ
      have e2:(((if (true:Bool)=true then 2 ^ k else 0:Nat):Int) != 0)=true:=by
        rw [if_pos rfl,bne_iff_ne]
        generalize 2 ^ k=p at *; omega
      rw [e2]; exact hQ
  · have h:=of_decide_eq_false h
    have e:hasF f i=false:=by
      rcases Int.lt_or_le i 0 with h' | h'
      · exact hasF_neg h'
      · exact hasF_over (by omega)
    rw [e] at hQ; exact hQ
theorem tdiv64 {i:Int} (h:0≤i):i.tdiv 64=i / 64∧i.tmod 64=i % 64:=⟨Int.tdiv_eq_ediv_of_nonneg h,Int.tmod_eq_emod_of_nonneg h⟩
theorem ref03_Has_ok {f:List Int} {i:Int} {Q:Bool→Prop} (hf:okF f) (hi:inI i) (hQ:Q (hasF f i)):ref03_Has f i Q:=by
  unfold ref03_Has
  unfold inI at hi
  refine ifP_dec (fun h=>?_) (fun h=>?_)
  · obtain ⟨e1,e2⟩:=tdiv64 h
    rw [e1,e2,w64_id (by omega) (by omega),u64_eq,show i % 64 % 18446744073709551616=(((i % 64).toNat:Nat):Int) by omega]
    refine ifP_dec (fun h2=>?_) (fun h2=>?_)
    · have hx:=okF_at hf (i / 64)
      refine idxP_at0 (by omega) h2 ⟨by omega,?_⟩
      rw [shr_u _ (by omega)]
      have e3:at0 f (i / 64) / 2 ^ (i % 64).toNat=(((at0 f (i / 64)).toNat / 2 ^ (i % 64).toNat:Nat):Int):=by
        rw [Int.natCast_ediv,Int.natCast_pow,Int.toNat_of_nonneg hx.1]; rfl
      have hlt:(at0 f (i / 64)).toNat / 2 ^ (i % 64).toNat≤(at0 f (i / 64)).toNat:=Nat.div_le_self _ _
      have e:hasF f i=decide ((at0 f (i / 64)).toNat / 2 ^ (i % 64).toNat % 2=1):=by unfold hasF; rw [Nat.testBit_eq_decide_div_mod_eq]; simp [h]
      rw [e] at hQ
      rw [e3]
      generalize (at0 f (i / 64)).toNat / 2 ^ (i % 64).toNat=m at *
      rw [bnd_nat (by omega) (by omega) (by omega) (by omega),Int.toNat_natCast,show Int.toNat 1=1 from rfl,Nat.and_one_is_mod]
      have e4:(((m % 2:Nat):Int)==1)=decide (m % 2=1):=by
        generalize m % 2=m
        by_cases hm:m=1
        · subst hm; rfl
        · rw [decide_eq_false hm]; exact beq_eq_false_iff_ne.2 (by omega)
      rw [e4]; exact hQ
    · rw [hasF_over (by omega)] at hQ; exact hQ
  · rw [hasF_neg (by omega)] at hQ; exact hQ
def wordsS (n:Int):Nat:=((if 4096<(if n<0 then 0 else n) then 4096 else (if n<0 then 0 else n))+63).toNat / 64
def newF (n:Int):List Int:=List.replicate (wordsS n) 0
theorem words_le (n:Int):wordsS n≤64:=by unfold wordsS; split <;> split <;> omega
theorem words_in {n i:Int} (h0:0≤i) (hn:i<n) (h:i<4096):i / 64<wordsS n:=by unfold wordsS; split <;> split <;> omega
theorem newF_ok (n:Int):okF (newF n):=by intro x hx; rw [newF,List.mem_replicate] at hx; omega
theorem newF_has (n i:Int):hasF (newF n) i=false:=by
  have:∀ k,at0 (newF n) k=0:=by
    intro k; unfold at0 newF
    rw [List.getD_eq_getElem?_getD,List.getElem?_replicate]; split <;> rfl
  unfold hasF; rw [this]; simp
theorem ref03_words_ok {n:Int} {Q:Int→Prop} (hQ:Q (wordsS n)):ref03_words n Q:=by
  unfold ref03_words
  refine join_intro (fun t=>t=if 4096<n then 4096 else n) ?_ ?_
  · rintro t ht
    refine ifP_dec (fun h=>?_) (fun h=>?_)
    · have hn1:n<1:=by
        subst ht
        split at h
        · omega
        · exact h
      have:wordsS n=0:=by
        unfold wordsS
        repeat' split
        all_goals omega
      rw [this] at hQ; exact hQ
    · have:w64 ((w64 (t+63)).tdiv 64)=(wordsS n:Int):=by
        unfold wordsS
        have ht0:1≤t∧t≤4096:=by subst ht; split at h <;> split <;> omega
        rw [w64_id (x:=t+63) (by omega) (by omega),Int.tdiv_eq_ediv_of_nonneg (by omega),w64_id (by omega) (by omega)]
        subst ht; split <;> split <;> omega
      rw [this]; exact hQ
  · intro k hk
    exact ifP_dec (fun h=>hk _ (by rw [if_pos h])) (fun h=>hk _ (by rw [if_neg h]))
theorem ref03_New_ok {n:Int} {Q:List Int→Prop} (hQ:Q (newF n)):ref03_New n Q:=by
  unfold ref03_New
  refine ref03_words_ok ⟨by omega,by have:=words_le n; omega,?_⟩
  simpa [newF] using hQ
def putF (f:List Int) (i:Int):List Int:=if 0≤i∧i / 64<f.length then f.set (i / 64).toNat (((at0 f (i / 64)).toNat ||| 2 ^ (i % 64).toNat:Nat):Int) else f
theorem putF_len (f:List Int) (i:Int):(putF f i).length=f.length:=by unfold putF; split <;> simp
theorem putF_ok {f:List Int} (h:okF f) (i:Int):okF (putF f i):=by
  unfold putF
  split
  · intro x hx
    rcases List.mem_or_eq_of_mem_set hx with hx | hx
    · exact h x hx
    · have hb:=okF_at h (i / 64)
      have hp:(2:Nat) ^ (i % 64).toNat<2 ^ 64:=Nat.pow_lt_pow_right (by omega) (by omega)
      have:=Nat.or_lt_two_pow (x:=(at0 f (i / 64)).toNat) (y:=2 ^ (i % 64).toNat) (n:=64) (by omega) hp
      omega
  · exact h
theorem putF_has {f:List Int} (i j:Int):hasF (putF f i) j=if j=i∧0≤i∧i / 64<f.length then true else hasF f j:=by
  unfold putF
  by_cases hc:0≤i∧i / 64<f.length
  · rw [if_pos hc]
    rcases Int.lt_or_le j 0 with hj | hj
    · rw [hasF_neg hj,if_neg (by omega),hasF_neg hj]
    · have hset:∀ v:Int,at0 (f.set (i / 64).toNat v) (j / 64)=if j / 64=i / 64 then v else at0 f (j / 64):=by
        intro v
        unfold at0
        rw [List.getD_eq_getElem?_getD,List.getD_eq_getElem?_getD]
        by_cases e:j / 64=i / 64
        · rw [if_pos e,e,List.getElem?_set_self (by omega)]; rfl
        · rw [if_neg e,List.getElem?_set_ne (by omega)]
      unfold hasF
      rw [hset]
      by_cases e:j / 64=i / 64
      · rw [if_pos e,Int.toNat_natCast,Nat.testBit_or,Nat.testBit_two_pow,e]
        by_cases e2:j=i
        · subst e2; simp [hc,hj]
        · have:¬(i % 64).toNat=(j % 64).toNat:=by omega
          simp [e2,this]
      · rw [if_neg e,if_neg (by intro h; exact e (by rw [h.1]))]
  · rw [if_neg hc,if_neg (fun h=>hc h.2)]
theorem ref03_Put_ok {f:List Int} {i:Int} {Q:List Int→Prop} (hf:okF f) (hl:f.length≤1000000) (hi:inI i) (hQ:Q (putF f i)):ref03_Put f i Q:=by
  unfold ref03_Put ref03_set
  unfold inI at hi
  refine appP_intro (by simp; omega) ?_
  simp only [List.nil_append]
  unfold putF at hQ
  refine ifP_dec (fun h=>?_) (fun h=>?_)
  · rw [if_neg (by omega)] at hQ; exact hQ
  · obtain ⟨e1,e2⟩:=tdiv64 (i:=i) (by omega)
    rw [e1,e2,w64_id (by omega) (by omega),u64_eq,show i % 64 % 18446744073709551616=(((i % 64).toNat:Nat):Int) by omega]
    refine ifP_dec (fun h2=>?_) (fun h2=>?_)
    · rw [if_neg (by omega)] at hQ; exact hQ
    · refine ⟨by omega,ifP_pos rfl (idxP_at0 (by omega) (by omega) (idxP_at0 (by omega) (by omega) ?_))⟩
      rw [if_pos (by omega)] at hQ
      have hp:=pw_lt (k:=(i % 64).toNat) (by omega)
      have hb:=okF_at hf (i / 64)
      rw [one_shl (by omega),bor_nat hb.1 hb.2 (Int.natCast_nonneg _) (by generalize 2 ^ (i % 64).toNat=p at *; omega),Int.toNat_natCast]
      exact hQ
def ofF (n:Int) (l:List Int):List Int:=l.foldl (fun f i=>if 0≤i∧i<n∧i<4096 then putF f i else f) (newF n)
theorem ofF_snoc (n:Int) (l:List Int) (i:Int):ofF n (l++[i])=if 0≤i∧i<n∧i<4096 then putF (ofF n l) i else ofF n l:=by simp [ofF]
theorem ofF_prop (n:Int) (l:List Int):okF (ofF n l)∧(ofF n l).length=wordsS n∧∀ j,hasF (ofF n l) j=decide (j∈l∧0≤j∧j<n∧j<4096):=by
  suffices H:∀ k,k≤l.length→okF (ofF n (l.take k))∧(ofF n (l.take k)).length=wordsS n∧∀ j,hasF (ofF n (l.take k)) j=decide (j∈l.take k∧0≤j∧j<n∧j<4096) by
    have:=H l.length (by omega); rwa [List.take_length] at this
  intro k
  induction k with
  | zero=>intro _; exact ⟨newF_ok n,by simp [ofF,newF],fun j=>by simp [ofF,newF_has]⟩
  | succ k ih=>
    intro hk
    obtain ⟨h1,h2,h3⟩:=ih (by omega)
    rw [List.take_succ_eq_append_getElem (by omega),ofF_snoc]
    split
    · rename_i hc
      refine ⟨putF_ok h1 _,by rw [putF_len,h2],fun j=>?_⟩
      rw [putF_has,h2,h3]
      have hw:=words_in hc.1 hc.2.1 hc.2.2
      by_cases e:j=l[k]
      · subst e
        rw [if_pos ⟨rfl,hc.1,hw⟩]
        exact (decide_eq_true ⟨List.mem_append.2 (.inr (by simp)),hc⟩).symm
      · rw [if_neg (fun h=>e h.1)]
        refine decide_eq_decide.2 ?_
        rw [List.mem_append,List.mem_singleton]
        simp only [e,or_false]
    · rename_i hc
      refine ⟨h1,h2,fun j=>?_⟩
      rw [h3]
      refine decide_eq_decide.2 ?_
      rw [List.mem_append,List.mem_singleton]
      by_cases e:j=l[k]
      · subst e
        constructor
        · rintro ⟨q1,q2⟩; exact ⟨.inl q1,q2⟩
        · rintro ⟨_,q2⟩; exact absurd q2 hc
      · simp only [e,or_false]
theorem ref03_Of_ok {n:Int} {l:List Int} {Q:List Int→Prop} (hl:l.length≤1000000000) (hi:∀ x∈l,inI x) (hQ:Q (ofF n l)):ref03_Of n l Q:=by
  unfold ref03_Of
  refine ref03_New_ok (range_intro (fun (s:List Int) i=>(s,i)) 0 l.length (by omega) (fun k s=>s=ofF n (l.take k)) (by omega) (by simp [ofF]) (fun k s next _ hk hs hn=>?_) (fun s next hs=>?_))
  · subst hs
    have hsn:=ofF_snoc n (l.take k) l[k]
    rw [←List.take_succ_eq_append_getElem hk] at hsn
    obtain ⟨p1,p2,_⟩:=ofF_prop n (l.take k)
    refine ifP_dec (fun _=>idxP_nat hk (ifP_dec (fun h1=>idxP_nat hk (ifP_dec (fun h2=>idxP_nat hk (ifP_dec (fun h3=>idxP_nat hk ?_) (fun h3=>hn _ ?_))) (fun h2=>hn _ ?_))) (fun h1=>hn _ ?_))) (fun h=>by omega)
    · refine ref03_Put_ok p1 (by have:=words_le n; omega) (hi _ (List.getElem_mem hk)) (hn _ ?_)
      rw [hsn,if_pos ⟨h1,h2,h3⟩]
    · rw [hsn,if_neg (by omega)]
    · rw [hsn,if_neg (by omega)]
    · rw [hsn,if_neg (by omega)]
  · subst hs
    refine ifP_dec (fun h=>by omega) (fun _=>?_)
    rw [List.take_length]; exact hQ
def listF (f:List Int):List Int:=((List.range (64*f.length)).filter fun i:Nat=>hasF f i).map fun i:Nat=>(i:Int)
theorem listF_mem {f:List Int} {i:Int}:i∈listF f↔hasF f i=true:=by
  unfold listF
  simp only [List.mem_map,List.mem_filter,List.mem_range]
  constructor
  · rintro ⟨k,⟨_,h⟩,rfl⟩; exact h
  · intro h
    obtain ⟨h1,h2⟩:=hasF_in h
    exact ⟨i.toNat,⟨by omega,by rw [Int.toNat_of_nonneg h1]; exact h⟩,by omega⟩
theorem listF_incr (f:List Int):(listF f).Pairwise (· < ·):=by
  unfold listF
  rw [List.pairwise_map]
  exact List.Pairwise.imp (fun h=>by omega) (List.Pairwise.filter _ List.pairwise_lt_range)
theorem listF_len (f:List Int):(listF f).length≤64*f.length:=by
  unfold listF
  rw [List.length_map]
  have:=List.length_filter_le (fun i:Nat=>hasF f i) (List.range (64*f.length))
  rwa [List.length_range] at this
theorem ref03_List_ok {f:List Int} {Q:List Int→Prop} (hf:okF f) (hl:f.length≤1000000) (hQ:Q (listF f)):ref03_List f Q:=by
  unfold ref03_List
  refine range_intro (fun (s:List Int) i=>(s,i)) 0 (64*f.length) (by omega) (fun k s=>s=((List.range k).filter fun i:Nat=>hasF f i).map fun i:Nat=>(i:Int)) (by omega) (by simp) (fun k s next _ hk hs hn=>?_) (fun s next hs=>?_)
  · subst hs
    refine ifP_dec (fun _=>ref03_Has_ok hf (by unfold inI; omega) ⟨fun h=>?_,fun h=>hn _ ?_⟩) (fun h=>by rw [w64_id (by omega) (by omega)] at h; omega)
    · refine appP_intro ?_ (hn _ ?_)
      · rw [List.length_map]
        have:=List.length_filter_le (fun i:Nat=>hasF f i) (List.range k)
        rw [List.length_range] at this
        simp; omega
      · rw [List.range_succ,List.filter_append,List.map_append]; simp [h]
    · rw [List.range_succ,List.filter_append,List.map_append]; simp [h]
  · subst hs
    exact ifP_dec (fun h=>by rw [w64_id (by omega) (by omega)] at h; omega) (fun _=>hQ)
def rightF (f:List Int) (n:Int):Prop:=(0≤n∧n≤4096)∧f.length=wordsS n∧∀ i∈listF f,i<n
instance (f:List Int) (n:Int):Decidable (rightF f n):=by unfold rightF; infer_instance
theorem ref03_Right_ok {f:List Int} {n:Int} {Q:Bool→Prop} (hf:okF f) (hl:f.length≤1000000) (hQ:Q (decide (rightF f n))):ref03_Right f n Q:=by
  unfold ref03_Right
  have hno:¬rightF f n→Q false:=fun h=>by rwa [decide_eq_false h] at hQ
  have hyes:rightF f n→Q true:=fun h=>by rwa [decide_eq_true h] at hQ
  refine ifP_dec (fun h=>hno fun h'=>?_) (fun h=>ifP_dec (fun h'=>hno fun h''=>?_) (fun h'=>ref03_words_ok (ifP_ne (fun h3=>hno fun h4=>?_) (fun h3=>?_))))
  · have:=h'.1; omega
  · have:=h''.1; omega
  · have:=h4.2.1; omega
  · refine ref03_List_ok hf hl (ifP_eq (fun he=>hyes ⟨by omega,by omega,fun i hi=>?_⟩) (fun he=>?_))
    · have:listF f=[]:=List.eq_nil_of_length_eq_zero (by omega)
      rw [this] at hi; simp at hi
    · have e:w64 (((listF f).length:Int) - 1)=(((listF f).length - 1:Nat):Int):=by
        have:=listF_len f
        rw [w64_id (by omega) (by omega)]; omega
      rw [e]
      refine idxP_nat (by omega) ?_
      by_cases hlt:(listF f)[(listF f).length - 1]'(by omega)<n
      · rw [decide_eq_true hlt]
        refine hyes ⟨by omega,by omega,fun i hi=>?_⟩
        obtain ⟨j,hj,rfl⟩:=List.mem_iff_getElem.1 hi
        rcases Nat.lt_or_ge j ((listF f).length - 1) with g | g
        · have:=List.pairwise_iff_getElem.1 (listF_incr f) j ((listF f).length - 1) hj (by omega) g
          omega
        · have:j=(listF f).length - 1:=by omega
          subst this; exact hlt
      · rw [decide_eq_false hlt]
        exact hno fun h4=>hlt (h4.2.2 _ (List.getElem_mem _))
theorem ofF_right {n:Int} (h:0≤n∧n≤4096) (l:List Int):rightF (ofF n l) n:=by
  obtain ⟨h1,h2,h3⟩:=ofF_prop n l
  refine ⟨h,h2,fun i hi=>?_⟩
  rw [listF_mem,h3] at hi
  exact (of_decide_eq_true hi).2.2.1
theorem ofF_list {n:Int} {l:List Int} (h:n≤4096) (hl:l.Pairwise (· < ·)) (hi:∀ i∈l,0≤i∧i<n):listF (ofF n l)=l:=by
  have hext:∀ {l l':List Int} (h:l.Pairwise (· < ·)) (h':l'.Pairwise (· < ·)) (he:∀ x,x∈l↔x∈l'),l=l':=fun h h' he=>
    sorted_eq ((List.perm_ext_iff_of_nodup (h.imp fun h e=>by omega) (h'.imp fun h e=>by omega)).2 he) h h' fun a b _ _ h1 h2=>by omega
  refine hext (listF_incr _) hl fun x=>?_
  rw [listF_mem,(ofF_prop n l).2.2]
  constructor
  · intro hx; exact (of_decide_eq_true hx).1
  · intro hx; have:=hi x hx; exact decide_eq_true ⟨hx,this.1,this.2,by omega⟩
end Go.Proofs.YtpackolbhcmomaaGreat
