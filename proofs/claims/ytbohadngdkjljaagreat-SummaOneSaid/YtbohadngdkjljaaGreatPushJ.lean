import Derived.Test.YtbohadngdkjljaaGreatPushB
namespace Go.Proofs.YtbohadngdkjljaaGreat
open Go Go.Fw
set_option linter.unusedVariables false
set_option linter.unusedSimpArgs false
def NY (z:Int):AN:=⟨AJ (z / 18446744073709551616),z % 18446744073709551616⟩
theorem JX (z:Int):NJ (NY z):=by unfold NJ NY; simp only [GM]; omega
theorem LZ (x y:Int):GN 5 (NY x) (NY y)=NY (x+y):=by
  have e:GN 5 (NY x) (NY y)=⟨AJ ((NY x).Hi+(NY y).Hi+(if 18446744073709551616≤(NY x).Lo+(NY y).Lo then 1 else 0)),((NY x).Lo+(NY y).Lo) % 18446744073709551616⟩:=rfl
  rw [e]
  unfold NY
  apply LL
  · simp only [GM]; split <;> omega
  · simp only; omega
theorem IU {v:Int} (h:HJ v):aX v=NY v:=by
  unfold aX NY HJ at *
  apply LL
  · simp only [GM]; split <;> omega
  · rfl
theorem vO {hi lo:Int} (h0:0≤lo) (h1:lo<18446744073709551616):(⟨AJ hi,lo⟩:AN)=NY (hi*18446744073709551616+lo):=by
  unfold NY
  apply LL
  · simp only [GM]; omega
  · simp only; omega
theorem AeX {x:Int} (k:Nat) (hk:k≤64):shr .u64 x k=x / 2 ^ k:=by
  unfold shr
  rw [Int.fdiv_eq_ediv_of_nonneg _ (Int.le_of_lt (Int.pow_pos (by omega)))]
  have:min (Int.toNat (k:Int)) (IntKind.bits .u64)=k:=by simp [IntKind.bits]; omega
  rw [this]
theorem Ad0 {x:Int} (k:Nat) (hk:k≤64):shl .u64 x k=(x*2 ^ k) % 18446744073709551616:=by
  unfold shl
  rw [OS]
  have:min (Int.toNat (k:Int)) (IntKind.bits .u64)=k:=by simp [IntKind.bits]; omega
  rw [this]
theorem dN (x:Int) (h0:0≤x) (h1:x<18446744073709551616):(BitVec.ofInt 64 x).toNat=x.toNat:=by
  rw [BitVec.toNat_ofInt]
  congr 1
  exact Int.emod_eq_of_lt h0 (by simpa using h1)
theorem AbY {x y:Int} (hx0:0≤x) (hx1:x<18446744073709551616) (hy0:0≤y) (hy1:y<18446744073709551616):bor .u64 x y=((x.toNat ||| y.toNat:Nat):Int):=by
  unfold bor
  have e:(BitVec.ofInt (IntKind.bits .u64) x ||| BitVec.ofInt (IntKind.bits .u64) y).toNat=x.toNat ||| y.toNat:=by
    show (BitVec.ofInt 64 x ||| BitVec.ofInt 64 y).toNat=_
    rw [BitVec.toNat_or,dN x hx0 hx1,dN y hy0 hy1]
  rw [e,OS]
  have:x.toNat ||| y.toNat<2 ^ 64:=Nat.or_lt_two_pow (by omega) (by omega)
  omega
theorem tA {h l:Int} (hh0:0≤h) (hh1:h<4294967296) (hl0:0≤l) (hl1:l<4294967296):bor .u64 (h*4294967296) l=h*4294967296+l:=by
  rw [AbY (by omega) (by omega) hl0 (by omega)]
  have e:(h*4294967296).toNat=h.toNat <<< 32:=by rw [Nat.shiftLeft_eq]; omega
  rw [e,←Nat.shiftLeft_add_eq_or_of_lt (by omega),Nat.shiftLeft_eq]
  omega
theorem zU {x:Int} (h0:0≤x) (h1:x<18446744073709551616):YY .u64 18446744073709551615 x=18446744073709551615 - x:=by
  unfold YY
  have e:(BitVec.ofInt (IntKind.bits .u64) 18446744073709551615 ^^^ BitVec.ofInt (IntKind.bits .u64) x).toNat=2 ^ 64 - 1 - x.toNat:=by
    show (BitVec.allOnes 64 ^^^ BitVec.ofInt 64 x).toNat=_
    rw [BitVec.allOnes_xor,BitVec.toNat_not,dN x h0 h1]
  rw [e,OS]
  omega
theorem zV {x:Int} (h:HJ x):YY .i64 (-1) x = -1 - x:=by
  unfold YY
  have e:(BitVec.ofInt (IntKind.bits .i64) (-1) ^^^ BitVec.ofInt (IntKind.bits .i64) x).toNat=2 ^ 64 - 1 - (x % 18446744073709551616).toNat:=by
    show (BitVec.ofInt 64 (-1) ^^^ BitVec.ofInt 64 x).toNat=_
    rw [show BitVec.ofInt 64 (-1)=BitVec.allOnes 64 by decide,BitVec.allOnes_xor,BitVec.toNat_not,BitVec.toNat_ofInt]
    rfl
  rw [e]
  show AJ _=_
  rw [GM]
  unfold HJ at h
  omega
theorem RN {x:Int} {Q:Int×Int→Prop} (h0:0≤x) (h1:x<18446744073709551616) (hQ:Q (x % 4294967296,x / 4294967296)):HB x Q:=by
  unfold HB
  have e1:shl .u64 x 32=(x*4294967296) % 18446744073709551616:=Ad0 32 (by omega)
  have e2:∀ y,shr .u64 y 32=y / 4294967296:=fun y=>AeX 32 (by omega)
  rw [e1,e2,e2]
  rwa [show x*4294967296 % 18446744073709551616 / 4294967296=x % 4294967296 by omega]
theorem tB {a b:Int} {Q:AN→Prop} (ha0:0≤a) (ha1:a<18446744073709551616) (hb0:0≤b) (hb1:b<18446744073709551616) (hQ:Q (NY (a*b))):QS a b Q:=by
  unfold QS
  have hlt:∀ x y:Int,0≤x→x<4294967296→0≤y→y<4294967296→0≤x*y∧x*y≤18446744065119617025:=by
    intro x y h1 h2 h3 h4
    refine ⟨Int.mul_nonneg h1 h3,?_⟩
    have:=Int.mul_le_mul (show x≤4294967295 by omega) (show y≤4294967295 by omega) h3 (by omega)
    omega
  refine RN ha0 ha1 (RN hb0 hb1 ?_)
  simp only
  obtain ⟨x0,hx0⟩:∃ x0,x0=a % 4294967296:=⟨_,rfl⟩
  obtain ⟨x1,hx1⟩:∃ x1,x1=a / 4294967296:=⟨_,rfl⟩
  obtain ⟨y0,hy0⟩:∃ y0,y0=b % 4294967296:=⟨_,rfl⟩
  obtain ⟨y1,hy1⟩:∃ y1,y1=b / 4294967296:=⟨_,rfl⟩
  rw [←hx0,←hx1,←hy0,←hy1]
  have hab:a*b=x1*y1*18446744073709551616+(x1*y0+x0*y1)*4294967296+x0*y0:=by
    have e1:a=x1*4294967296+x0:=by omega
    have e2:b=y1*4294967296+y0:=by omega
    rw [e1,e2,Int.add_mul,Int.mul_add,Int.mul_add]
    have q1:x1*4294967296*(y1*4294967296)=x1*y1*18446744073709551616:=by rw [Int.mul_assoc,Int.mul_left_comm 4294967296 y1,←Int.mul_assoc x1]; rfl
    have q2:x1*4294967296*y0=x1*y0*4294967296:=Int.mul_right_comm _ _ _
    have q3:x0*(y1*4294967296)=x0*y1*4294967296:=(Int.mul_assoc _ _ _).symm
    rw [q1,q2,q3]; omega
  obtain ⟨b00,c00⟩:=hlt x0 y0 (by omega) (by omega) (by omega) (by omega)
  obtain ⟨b01,c01⟩:=hlt x0 y1 (by omega) (by omega) (by omega) (by omega)
  obtain ⟨b10,c10⟩:=hlt x1 y0 (by omega) (by omega) (by omega) (by omega)
  obtain ⟨b11,c11⟩:=hlt x1 y1 (by omega) (by omega) (by omega) (by omega)
  generalize x0*y0=p00 at *
  generalize x0*y1=p01 at *
  generalize x1*y0=p10 at *
  generalize x1*y1=p11 at *
  simp only [OS]
  refine RN (by omega) (by omega) ?_
  simp only
  refine RN (by omega) (by omega) ?_
  simp only
  refine RN (by omega) (by omega) (RN (by omega) (by omega) ?_)
  simp only
  have e3:∀ y,shl .u64 y 32=(y*4294967296) % 18446744073709551616:=fun y=>Ad0 32 (by omega)
  rw [e3]
  have e4:∀ y:Int,(y % 4294967296*4294967296) % 18446744073709551616=y % 4294967296*4294967296:=fun y=>by omega
  rw [e4,tA (by omega) (by omega) (by omega) (by omega),vO (by omega) (by omega)]
  rw [hab] at hQ
  have hfin:NY (((((p11 % 18446744073709551616+(p10 % 18446744073709551616+p00 % 18446744073709551616 / 4294967296) % 18446744073709551616 / 4294967296) % 18446744073709551616+(p01 % 18446744073709551616+(p10 % 18446744073709551616+p00 % 18446744073709551616 / 4294967296) % 18446744073709551616 % 4294967296) % 18446744073709551616 / 4294967296) % 18446744073709551616)*18446744073709551616+((p01 % 18446744073709551616+(p10 % 18446744073709551616+p00 % 18446744073709551616 / 4294967296) % 18446744073709551616 % 4294967296) % 18446744073709551616 % 4294967296*4294967296+p00 % 18446744073709551616 % 4294967296)))=NY (p11*18446744073709551616+(p10+p01)*4294967296+p00):=by
    unfold NY
    apply LL
    · simp only [GM]; omega
    · simp only; omega
  rw [hfin]; exact hQ
theorem cC {a:AN} (h:NJ a):a=NY (a.Hi*18446744073709551616+a.Lo):=by
  unfold NJ at h
  rw [←vO (by omega) (by omega)]
  apply LL
  · simp only [GM]; omega
  · rfl
theorem zW {x:Int} {Q:AN→Prop} (hQ:Q (NY (-x))):bL ⟨0,0⟩ (NY x) Q:=by
  unfold bL SD
  have key:∀ c:Int,(c=if 0<(NY x).Lo then 1 else 0)→(⟨AJ ((((0 % 18446744073709551616) - ((NY x).Hi % 18446744073709551616)) % 18446744073709551616 - c) % 18446744073709551616),(0 - (NY x).Lo) % 18446744073709551616⟩:AN)=NY (-x):=by
    intro c hc
    unfold NY at *
    subst hc
    apply LL
    · simp only [GM]; split <;> omega
    · simp only; omega
  simp only [OS]
  refine AD (fun h=>?_) (fun h=>?_)
  · rw [key 1 (by rw [if_pos h])]; exact hQ
  · rw [key 0 (by rw [if_neg h])]; exact hQ
theorem pW {a b:Int} {Q:AN→Prop} (ha:HJ a) (hb:HJ b) (hQ:Q (NY (a*b))):bM a b Q:=by
  unfold bM
  unfold HJ at ha hb
  have hs:∀ {x:Int} {K:Int→Prop},-9223372036854775808≤x∧x≤9223372036854775807→K (if x<0 then -x else x)→UY x K:=by
    intro x K hx hK
    unfold UY
    simp only [OS]
    refine AD (fun h=>?_) (fun h=>?_)
    · rw [if_pos h] at hK; rwa [show (0 - x % 18446744073709551616) % 18446744073709551616 = -x by omega]
    · rw [if_neg h] at hK; rwa [show x % 18446744073709551616=x by omega]
  refine hs ha (hs hb ?_)
  have m1 : -a*b = -(a*b):=Int.neg_mul _ _
  have m2:a * -b = -(a*b):=Int.mul_neg _ _
  have m3 : -a * -b=a*b:=Int.neg_mul_neg _ _
  refine tB (by split <;> omega) (by split <;> omega) (by split <;> omega) (by split <;> omega) ?_
  by_cases h1:a<0 <;> by_cases h2:b<0
  · rw [if_pos h1,if_pos h2,m3]
    exact AV (by simp [h1,h2]) hQ
  · rw [if_pos h1,if_neg h2,m1]
    exact BM (by simp [h1,h2]) (zW (by rwa [Int.neg_neg]))
  · rw [if_neg h1,if_pos h2,m2]
    exact BM (by simp [h1,h2]) (zW (by rwa [Int.neg_neg]))
  · rw [if_neg h1,if_neg h2]
    exact AV (by simp [h1,h2]) hQ
theorem zX {x:Int} {Q:AN→Prop} (hQ:Q (NY (-x))):TO (NY x) Q:=by
  unfold TO
  have hx:=JX x
  unfold NJ at hx
  have e:(⟨YY .i64 (-1) (NY x).Hi,YY .u64 18446744073709551615 (NY x).Lo⟩:AN)=NY (-x - 1):=by
    rw [zV (by unfold HJ; omega),zU (by omega) (by omega)]
    unfold NY
    apply LL
    · simp only [GM]; omega
    · simp only; omega
  have e1:(⟨0,1⟩:AN)=NY 1:=by decide
  rw [e,e1]
  refine KU (JX _) (JX _) ?_
  rw [LZ,show -x - 1+1 = -x by omega]; exact hQ
theorem nB {a b:Int} {Q:AN→Prop} (ha:HJ a) (hb:HJ b) (hQ:Q (NY (a*b))):YO a b Q:=by
  unfold YO
  have hb':=hb
  unfold HJ at hb'
  refine FH ha (ED (fun t:Int=>t=if b<0 then -b else b) ?_ ?_)
  · rintro t ht
    rw [IU ha]
    have ht0:0≤t∧t≤9223372036854775808:=by subst ht; split <;> omega
    refine EC (fun s:Int×Int×Int×Int×Int=>∃ A z,(⟨s.1,s.2.1⟩:AN)=NY A∧(⟨s.2.2.2.1,s.2.2.2.2⟩:AN)=NY z∧0≤s.2.2.1∧s.2.2.1≤9223372036854775808∧z+A*s.2.2.1=a*t) (fun s=>s.2.2.1.toNat) ⟨a,0,rfl,(by decide:(⟨0,0⟩:AN)=NY 0),ht0.1,ht0.2,by simp⟩ ?_
    rintro ⟨s1,s2,s3,s4,s5⟩ next ⟨A,z,hA,hz,h0,h1,he⟩ hn
    simp only at hA hz h0 h1 he ⊢
    have e2:IntKind.wrap .u64 (s3.tdiv 2)=s3 / 2:=by rw [OS,Int.tdiv_eq_ediv_of_nonneg h0]; omega
    refine AD (fun hp=>BU (fun ho=>?_) (fun ho=>?_)) (fun hp=>?_)
    · rw [hz,hA]
      refine KU (JX _) (JX _) (KU (JX _) (JX _) ?_)
      rw [LZ,LZ,e2]
      rw [Int.tmod_eq_emod_of_nonneg h0] at ho
      refine hn _ ⟨A+A,z+A,rfl,rfl,by simp only; omega,by simp only; omega,?_⟩ (by simp only; omega)
      simp only
      obtain ⟨m,hm⟩:∃ m,s3=2*m+1:=⟨s3 / 2,by omega⟩
      rw [show s3 / 2=m by omega,←he,hm,Int.add_mul,Int.mul_add,Int.mul_one,Int.mul_left_comm]; omega
    · rw [hA]
      refine KU (JX _) (JX _) ?_
      rw [LZ,e2]
      rw [Int.tmod_eq_emod_of_nonneg h0] at ho
      refine hn _ ⟨A+A,z,rfl,hz,by simp only; omega,by simp only; omega,?_⟩ (by simp only; omega)
      simp only
      obtain ⟨m,hm⟩:∃ m,s3=2*m:=⟨s3 / 2,by omega⟩
      rw [show s3 / 2=m by omega,←he,hm,Int.add_mul,Int.mul_left_comm]; omega
    · have e0:s3=0:=by omega
      subst e0
      rw [Int.mul_zero,Int.add_zero] at he
      rw [hz,he]
      refine AD (fun h=>zX ?_) (fun h=>?_)
      · rw [ht,if_pos h,Int.mul_neg,Int.neg_neg]; exact hQ
      · rw [ht,if_neg h]; exact hQ
  · intro k hk
    simp only [OS]
    refine AD (fun h=>hk _ ?_) (fun h=>hk _ ?_)
    · rw [if_pos h]; omega
    · rw [if_neg h]; omega
def aC (r a x:Int):AN:=
  if r=2 then (if a≠0∧x≠0 then ⟨0,1⟩ else ⟨0,0⟩)
  else if r=5 then NY (a*x)
  else if r=1∨r=3∨r=4 then
    (if 4611686018427387904≤a∨4611686018427387904≤x then NY 4611686018427387904
     else if r=3 then NY a else if r=4 then NY x else if WU (NY 4611686018427387904) (NY (a+x)) then NY 4611686018427387904 else NY (a+x))
  else ⟨0,0⟩
theorem NM (r a x:Int):NJ (aC r a x):=by
  have h0:NJ ⟨0,0⟩:=by unfold NJ; simp
  have h1:NJ ⟨0,1⟩:=by unfold NJ; simp
  unfold aC
  repeat' split
  all_goals first | exact JX _ | exact h0 | exact h1
theorem nC {x y:Int} (hx : -170141183460469231731687303715884105728≤x∧x<170141183460469231731687303715884105728) (hy : -170141183460469231731687303715884105728≤y∧y<170141183460469231731687303715884105728):WU (NY x) (NY y)↔x≤y:=by
  have h:∀ z:Int,-170141183460469231731687303715884105728≤z∧z<170141183460469231731687303715884105728→AJ (z / 18446744073709551616)=z / 18446744073709551616:=by
    intro z hz; rw [GM]; omega
  unfold WU NY
  simp only [h x hx,h y hy]
  omega
theorem pX {r a x:Int} {Q:AN→Prop} (ha:HJ a) (hx:HJ x) (hQ:Q (aC r a x)):bN r a x Q:=by
  unfold bN
  unfold aC at hQ
  have ia:HJ 4611686018427387904:=by unfold HJ; omega
  refine BU (fun h=>?_) (fun h=>BU (fun h5=>?_) (fun h5=>?_))
  · rw [if_pos h] at hQ
    refine DW (fun h1=>bW ?_) (fun h1=>bW ?_)
    · simpa [h1] using hQ
    · simpa [h1] using hQ
  · rw [if_neg h,if_pos h5] at hQ
    exact pW ha hx hQ
  · rw [if_neg h,if_neg h5] at hQ
    have emax:(if x > a then x else a)≥4611686018427387904↔4611686018427387904≤a∨4611686018427387904≤x:=by split <;> omega
    refine ED (fun _=>¬((1≤r∧r≤5)∧(4611686018427387904≤a∨4611686018427387904≤x))) ?_ ?_
    · rintro _ hno
      refine ED (fun p:Int×Int=>(⟨p.1,p.2⟩:AN)=NY (if r=1 then a else 0)∧(r=1∨r=4)) ?_ ?_
      · rintro ⟨p1,p2⟩ ⟨hp,hr⟩
        simp only at hp ⊢
        refine KK ia (KK hx ?_)
        rw [hp,IU ia,IU hx]
        refine eW (JX _) (JX _) (lC ?_)
        rw [LZ]
        rw [if_pos (by omega),if_neg (by omega),if_neg (by omega)] at hQ
        rcases hr with hr | hr
        · rw [if_pos hr]; rwa [if_neg (by omega)] at hQ
        · rw [if_neg (show ¬r=1 by omega),show (0:Int)+x=x by omega]
          rw [if_pos hr] at hQ
          unfold HJ at hx
          rwa [if_neg (by rw [nC (by omega) (by omega)]; omega)]
      · intro k hk
        refine BU (fun h1=>KK ha (hk _ ⟨?_,.inl h1⟩)) (fun h1=>BU (fun h4=>hk _ ⟨?_,.inr h4⟩) (fun h4=>BU (fun h3=>KK ha ?_) (fun h3=>?_)))
        · rw [if_pos h1]; exact IU ha
        · rw [if_neg h1]; decide
        · rw [if_pos (by omega),if_neg (by omega),if_pos h3] at hQ
          rw [IU ha]; exact hQ
        · rw [if_neg (by omega)] at hQ; exact hQ
    · intro k hk
      refine MG ⟨fun h1=>AD (fun h2=>KK ia ?_) (fun h2=>hk _ ?_),fun h1=>hk _ ?_⟩
      · have h1:=of_decide_eq_true h1
        rw [if_pos (by omega),if_pos (emax.1 h2)] at hQ
        rw [IU ia]; exact hQ
      · exact fun h'=>h2 (emax.2 h'.2)
      · exact fun h'=>of_decide_eq_false h1 h'.1
theorem tC {a b:AN} {Q:Int→Prop} (h1:¬WU b a→Q (-1)) (h2:a=b→Q 0) (h3:¬WU a b→Q 1):HL a b Q:=by
  unfold HL
  refine ED (fun _=>WU b a) (fun _ hb=>BU h2 (fun e=>h3 fun hab=>e ?_)) fun k hk=>?_
  · unfold WU at hb hab; exact LL (by omega) (by omega)
  · refine AD (fun h=>h1 ?_) (fun h=>BU (fun e=>AD (fun h'=>h1 ?_) (fun h'=>hk () ?_)) (fun e=>hk () ?_))
    all_goals (unfold WU; omega)
theorem nD {r a x:Int} {Q:AN→Prop} (ha:HJ a) (hx:HJ x) (hQ:Q (aC r a x)):YP r a x Q:=by
  unfold YP
  unfold aC at hQ
  have ia:HJ 4611686018427387904:=by unfold HJ; omega
  refine ED (fun b:Bool=>b=decide (4611686018427387904≤a∨4611686018427387904≤x)) ?_ ?_
  · rintro b rfl
    refine BU (fun h1=>?_) (fun h1=>BU (fun h3=>?_) (fun h3=>BU (fun h4=>?_) (fun h4=>BU (fun h2=>?_) (fun h2=>BU (fun h5=>?_) (fun h5=>?_)))))
    · rw [if_neg (by omega),if_neg (by omega),if_pos (by omega)] at hQ
      refine FH ha (FH hx ?_)
      rw [IU ha,IU hx]
      refine KU (JX _) (JX _) ?_
      rw [LZ]
      refine AD (fun h=>FH ia ?_) (fun h=>FH ia ?_)
      · rw [if_pos h] at hQ; rw [IU ia]; exact hQ
      · rw [if_neg h,if_neg (by omega),if_neg (by omega)] at hQ
        rw [IU ia]
        unfold HJ at ha hx
        have hb:WU (NY 4611686018427387904) (NY (a+x))↔4611686018427387904≤a+x:=nC (by omega) (by omega)
        have hc:WU (NY (a+x)) (NY 4611686018427387904)↔a+x≤4611686018427387904:=nC (by omega) (by omega)
        refine tC (fun hlt=>AD (fun h'=>by omega) (fun _=>?_)) (fun he=>AD (fun h'=>by omega) (fun _=>?_)) (fun hgt=>AD (fun _=>FH ia ?_) (fun h'=>by omega))
        · rwa [if_neg hlt] at hQ
        · rw [if_pos (by rw [he]; unfold WU; omega)] at hQ; rwa [he]
        · rw [if_pos (by rw [hb]; rw [hc] at hgt; omega)] at hQ; rw [IU ia]; exact hQ
    · rw [if_neg (by omega),if_neg (by omega),if_pos (by omega)] at hQ
      refine AD (fun h=>FH ia ?_) (fun h=>FH ha ?_)
      · rw [if_pos h] at hQ; rw [IU ia]; exact hQ
      · rw [if_neg h,if_pos h3] at hQ; rw [IU ha]; exact hQ
    · rw [if_neg (by omega),if_neg (by omega),if_pos (by omega)] at hQ
      refine AD (fun h=>FH ia ?_) (fun h=>FH hx ?_)
      · rw [if_pos h] at hQ; rw [IU ia]; exact hQ
      · rw [if_neg h,if_neg (by omega),if_pos h4] at hQ; rw [IU hx]; exact hQ
    · rw [if_pos h2] at hQ
      refine DW (fun h1=>NK ?_) (fun h1=>NK ?_)
      · simpa [h1] using hQ
      · simpa [h1] using hQ
    · rw [if_neg h2,if_pos h5] at hQ
      exact nB ha hx hQ
    · rw [if_neg h2,if_neg h5,if_neg (by omega)] at hQ; exact hQ
  · intro k hk
    refine AD (fun h=>hk _ ?_) (fun h=>hk _ ?_)
    · simp [h]
    · simp [h]
def IncI (l:List CF):Prop:=l.Pairwise fun a b=>a.At<b.At
instance (l:List CF):Decidable (IncI l):=by unfold IncI; infer_instance
structure VecP (v:Vec):Prop where
  n0:0≤v.N
  n1:v.N≤4096
  inc:IncI v.Items
  ins:∀ x∈v.Items,0≤x.At∧x.At<v.N
instance (v:Vec):Decidable (VecP v):=decidable_of_iff (0≤v.N∧v.N≤4096∧IncI v.Items∧∀ x∈v.Items,0≤x.At∧x.At<v.N) ⟨fun ⟨a,b,c,d⟩=>⟨a,b,c,d⟩,fun ⟨a,b,c,d⟩=>⟨a,b,c,d⟩⟩
theorem IncI.at {l:List CF} (h:IncI l) {i j:Nat} (hj:j<l.length) (hij:i<j):(l[i]'(by omega)).At<l[j].At:=by
  unfold IncI at h; rw [List.pairwise_iff_getElem] at h; exact h i j (by omega) hj hij
theorem zY {l:List CF} (h:IncI l) {n:Int} (hn:0≤n) (hi:∀ x∈l,0≤x.At∧x.At<n):(l.length:Int)≤n:=by
  have:∀ k (hk:k<l.length),(k:Int)≤l[k].At:=by
    intro k
    induction k with
    | zero=>intro hk; exact (hi _ (List.getElem_mem hk)).1
    | succ k ih=>intro hk; have:=ih (by omega); have:=h.at hk (i:=k) (by omega); omega
  rcases Nat.eq_zero_or_pos l.length with e | e
  · rw [e]; exact hn
  · have h1:=this (l.length - 1) (by omega)
    have h2:=hi _ (List.getElem_mem (show l.length - 1<l.length by omega))
    omega
theorem VecP.len {v:Vec} (h:VecP v):v.Items.length≤4096:=by have:=zY h.inc h.n0 h.ins; have:=h.n1; omega
theorem zZ {α β:Type} {xs:List α} {f:α→β} {body:List β×Int→(List β×Int→Prop)→Prop} (hl:xs.length≤1000000000)
    (hs:∀ (i:Nat) (s:List β) (next:List β×Int→Prop) (hi:i<xs.length),s.length=i→(next (s++[f xs[i]],AJ ((i:Int)+1)))→body (s,(i:Int)) next)
    (he:∀ (next:List β×Int→Prop) s,s=xs.map f→body (s,(xs.length:Int)) next):BK body ([],0):=by
  refine BE (fun (s:List β) i=>(s,i)) 0 xs.length (by omega) (fun k s=>s=(xs.take k).map f) (by omega) (by simp) (fun k s next _ hk hs' hn=>?_) (fun s next hs'=>?_)
  · refine hs k s next hk (by subst hs'; simp; omega) (hn _ ?_)
    subst hs'
    rw [List.take_succ_eq_append_getElem hk,List.map_append]; rfl
  · rw [List.take_length] at hs'
    exact he next s hs'
def kvI (x:CF):Int×Int:=(x.At,x.Val)
def YZ (l:List CF) (i:Int):Option Int:=BS i (l.map kvI)
theorem LN (s:CF) (l:List CF) (i:Int):YZ (s :: l) i=if i=s.At then some s.Val else YZ l i:=rfl
theorem cD:∀ {l:List CF} {i:Int},(∀ s∈l,s.At≠i)→YZ l i=none
  | [],_,_=>rfl
  | s :: l,i,h=>by rw [LN,if_neg (fun e=>h s (by simp) e.symm)]; exact cD fun x hx=>h x (by simp [hx])
theorem nE:∀ {l:List CF} {i:Int} {v:Int},YZ l i=some v→⟨i,v⟩∈l
  | s :: l,i,v,h=>by
    rw [LN] at h
    split at h
    · rename_i e; cases h; subst e; simp
    · exact List.mem_cons_of_mem _ (nE h)
theorem vP:∀ {l:List CF} (h:IncI l) {s:CF},s∈l→YZ l s.At=some s.Val
  | x :: l,h,s,hs=>by
    unfold IncI at h
    rw [List.pairwise_cons] at h
    rw [LN]
    rcases List.mem_cons.1 hs with e | hs
    · subst e; rw [if_pos rfl]
    · have:=h.1 s hs
      rw [if_neg (by omega)]; exact vP h.2 hs
theorem SS:∀ (l:List CF) (m:List CF) (i:Int),YZ (l++m) i=match YZ l i with | some v=>some v | none=>YZ m i
  | [],m,i=>rfl
  | s :: l,m,i=>by
    rw [List.cons_append,LN,LN]
    split
    · rfl
    · exact SS l m i
def AeY (o:Option Int):Int×Bool:=match o with | some v=>(v,true) | none=>(0,false)
theorem IncI.take {l:List CF} (h:IncI l) (k:Nat):IncI (l.take k):=List.Pairwise.sublist (List.take_sublist k l) h
def iO (r:Int) (A B:Int→Option Int) (acc:Option AN) (k:Int):Option AN:=match A k,B k with | some a,some x=>fO r acc (some (aC r a x)) | _,_=>acc
def aD (r:Int) (n:Nat) (A B:Int→Option Int):Option AN:=(List.range n).foldl (fun acc (k:Nat)=>iO r A B acc k) none
theorem wV {r:Int} {A B:Int→Option Int} {acc:Option AN} (h:∀ w,acc=some w→NJ w) (k:Int):∀ w,iO r A B acc k=some w→NJ w:=by
  intro w hw
  unfold iO at hw
  split at hw
  · cases acc with
    | none=>cases hw; exact NM _ _ _
    | some b=>cases hw; exact VA (h b rfl) (NM _ _ _)
  · exact h w hw
theorem pY (r:Int) (n:Nat) (A B:Int→Option Int):∀ w,aD r n A B=some w→NJ w:=by
  unfold aD
  induction n with
  | zero=>intro w hw; cases hw
  | succ n ih=>rw [List.range_succ,List.foldl_append]; exact wV ih n
theorem WH {β γ:Type} {f g:β→γ→β}:∀ {l:List γ} {a:β},(∀ acc k,k∈l→f acc k=g acc k)→l.foldl f a=l.foldl g a
  | [],_,_=>rfl
  | x :: l,a,h=>by rw [List.foldl_cons,List.foldl_cons,h a x (by simp)]; exact WH fun acc k hk=>h acc k (by simp [hk])
theorem cE {β:Type} {step:β→Int→Int→β} {a:β}:∀ {n:Nat} {l:List CF},IncI l→(∀ x∈l,0≤x.At∧x.At<n) →
    l.foldl (fun acc x=>step acc x.At x.Val) a=(List.range n).foldl (fun acc (k:Nat)=>match YZ l k with | some v=>step acc k v | none=>acc) a
  | 0,l,h,hi=>by
    cases l with
    | nil=>rfl
    | cons x l=>have:=hi x (by simp); omega
  | n+1,l,h,hi=>by
    rw [List.range_succ,List.foldl_append]
    simp only [List.foldl_cons,List.foldl_nil]
    have hc:l=[]∨∃ p y,l=p++[y]:=by
      rcases List.eq_nil_or_concat l with h | ⟨p,y,h⟩
      · exact .inl h
      · exact .inr ⟨p,y,by rw [h,List.concat_eq_append]⟩
    have old:∀ {l:List CF},IncI l→(∀ x∈l,0≤x.At∧x.At<n)→YZ l n=none:=fun _ hi=>cD fun s hs=>by have:=hi s hs; omega
    rcases hc with e | ⟨p,y,e⟩
    · subst e
      rw [←cE (n:=n) (l:=[]) h (by simp)]; rfl
    · subst e
      have hp:IncI p:=(List.pairwise_append.1 h).1
      have hlt:∀ x∈p,x.At<y.At:=fun x hx=>(List.pairwise_append.1 h).2.2 x hx y (by simp)
      by_cases ey:y.At=n
      · have hpin:∀ x∈p,0≤x.At∧x.At<n:=fun x hx=>⟨(hi x (by simp [hx])).1,by have:=hlt x hx; omega⟩
        have e1:YZ (p++[y]) n=some y.Val:=by rw [SS,old hp hpin,LN,if_pos ey.symm]
        rw [e1,List.foldl_append,cE hp hpin]
        simp only [List.foldl_cons,List.foldl_nil,ey]
        congr 1
        refine WH fun acc k hk=>?_
        have hk:=List.mem_range.1 hk
        have:YZ (p++[y]) k=YZ p k:=by rw [SS,LN,if_neg (by omega)]; cases YZ p k <;> rfl
        rw [this]
      · have hin:∀ x∈p++[y],0≤x.At∧x.At<n:=by
          intro x hx
          have h1:=hi x hx
          refine ⟨h1.1,?_⟩
          have hy:=hi y (by simp)
          rcases List.mem_append.1 hx with hx | hx
          · have:=hlt x hx; omega
          · simp only [List.mem_singleton] at hx; subst hx; omega
        rw [old h hin,cE h hin]
def MU (r:Int) (B:Int→Option Int) (acc:Option AN) (y:CF):Option AN:=match B y.At with | some x=>fO r acc (some (aC r y.Val x)) | none=>acc
theorem wW {r:Int} {B:Int→Option Int} {acc:Option AN} (h:∀ w,acc=some w→NJ w) (y:CF):∀ w,MU r B acc y=some w→NJ w:=by
  intro w hw
  unfold MU at hw
  split at hw
  · cases acc with
    | none=>cases hw; exact NM _ _ _
    | some b=>cases hw; exact VA (h b rfl) (NM _ _ _)
  · exact h w hw
theorem dO (r:Int) (B:Int→Option Int):∀ (l:List CF) (acc:Option AN),(∀ w,acc=some w→NJ w)→∀ w,l.foldl (MU r B) acc=some w→NJ w
  | [],acc,h=>h
  | y :: l,acc,h=>dO r B l _ (wW h y)
theorem Aa0 {r:Int} {B:Int→Option Int} {n:Nat} {l:List CF} (h:IncI l) (hi:∀ x∈l,0≤x.At∧x.At<n):l.foldl (MU r B) none=aD r n (YZ l) B:=by
  have:=cE (step:=fun acc k a=>match B k with | some x=>fO r acc (some (aC r a x)) | none=>acc) (a:=none) h hi
  refine this.trans (WH fun acc k _=>?_)
  unfold iO
  cases YZ l (k:Int) <;> cases B (k:Int) <;> rfl
def fP (ts:List AC) (i:Int):List CF:=(KL ts i.toNat).map RM
def zS (r:Int):Int:=if r=1∨r=3∨r=4 then 4611686018427387904 else 0
theorem nF {r:Int} {Q:Int→Prop} (hQ:Q (zS r)):UZ r Q:=by
  unfold UZ; unfold zS at hQ
  refine BU (fun h=>?_) (fun h=>BU (fun h3=>?_) (fun h3=>BU (fun h4=>?_) (fun h4=>?_)))
  · rwa [if_pos (.inl h)] at hQ
  · rwa [if_pos (.inr (.inl h3))] at hQ
  · rwa [if_pos (.inr (.inr h4))] at hQ
  · rwa [if_neg (by omega)] at hQ
def JY (x:Int):Int:=x % 40
theorem vQ {x:Int} {Q:Int→Prop} (h:WS .u8 x) (hQ:Q (JY x)):SI x Q:=by
  unfold SI
  have hb:=bounds_u8 h
  rw [AX (by omega) (by omega),Int.tmod_eq_emod_of_nonneg (by omega)]
  exact hQ
theorem vR (x:Int):0≤JY x∧JY x≤39:=by unfold JY; omega
theorem AbZ {a0:Int×Int} {ts:List AC} {Q:Rows→Prop} (h0:WS .u8 a0.1∧WS .u8 a0.2) (hv:∀ t∈ts,LK t)
    (hQ:∀ T,Canon (JY a0.1) (JY a0.2) T→(∀ t∈T,HJ t.Val)→Q (AZ (JY a0.1) (JY a0.2) T)):VX a0 ts Q:=by
  unfold VX
  have r0:=vR a0.1; have c0:=vR a0.2
  refine vQ h0.1 (vQ h0.2 (AdM fun ys hl hm=>?_))
  refine BE (fun (s:List AC) i=>(s,i)) 0 ys.length (by omega) (fun i s=>s.length≤i∧∀ t∈s,HJ t.Val) (by omega) (s0:=[]) ⟨by simp,by simp⟩ (fun i s next _ hi hm2 hn=>?_) (fun s next hm2=>?_)
  · obtain ⟨hs1,hs2⟩:=hm2
    dsimp only
    refine AD (fun _=>?_) (fun h=>by omega)
    have hskip:next (s,AJ ((i:Int)+1)):=hn s ⟨by omega,hs2⟩
    refine BH hi (AD (fun _=>hskip) (fun _=>AD (fun _=>hskip) (fun _=>BU (fun _=>hskip) (fun g1=>BU (fun _=>hskip) (fun g2=>⟨g1,g2,?_⟩)))))
    have hx:HJ ys[i].Val:=AbV (hv _ (hm _ (List.getElem_mem hi))).2.2
    refine BJ (by simp only [List.length_singleton]; omega) (hn _ ⟨by simp; omega,fun t ht=>?_⟩)
    rcases List.mem_append.1 ht with ht | ht
    · exact hs2 t ht
    · simp at ht; subst ht; exact hx
  · obtain ⟨hs1,hs2⟩:=hm2
    dsimp only
    refine AD (fun h=>by omega) (fun _=>?_)
    refine dM (by omega) hs2 ?_
    rcases zP (r:=1) (rows:=JY a0.1) (cols:=JY a0.2) hs2 with ⟨h1,h2⟩ | ⟨T,hT,he,_,_,_,_,hTe,_⟩
    · refine BM (by simpa using h2) ?_
      unfold KE
      have e:AJ (JY a0.1+1)=JY a0.1+1:=AX (by omega) (by omega)
      rw [e]
      refine ⟨by omega,by omega,?_⟩
      have:=hQ [] ⟨r0.1,by omega,c0.1,by omega,by simp,.nil,by simp⟩ (by simp)
      unfold AZ at this
      have e2:(JY a0.1+1).toNat=(JY a0.1).toNat+1:=by omega
      rw [e2,dL]
      exact this
    · rw [he]
      refine AV (by simp) (hQ T hT fun t ht=>?_)
      rw [hTe] at ht
      unfold PW at ht
      split at ht
      · obtain ⟨p,_,rfl⟩:=List.mem_map.1 ht
        exact AbW p.2
      · simp at ht
def Aa1 (r x:Int):Int:=if r=5 then x else if r=2 then oP .i64 x 1 else if (oP .i64 x 4611686018427387903).tmod 5=0 then 4611686018427387904 else oP .i64 x 4611686018427387903
def wX (r x:Int):Int:=if r=5 then x.tmod 2147483648 else Aa1 r x
theorem vS (x y:Int):HJ (oP .i64 x y):=by
  unfold oP HJ
  show -9223372036854775808≤AJ _∧AJ _≤9223372036854775807
  rw [GM]; omega
theorem Aa2 {r x:Int} (h:HJ x):HJ (Aa1 r x):=by
  unfold Aa1
  repeat' split
  · exact h
  · exact vS _ _
  · unfold HJ; omega
  · exact vS _ _
theorem Aa3 {r x:Int} (h:HJ x):HJ (wX r x):=by
  unfold wX
  split
  · unfold HJ at *
    rcases Int.lt_or_le x 0 with h' | h'
    · have:=Int.neg_tmod (a:=-x) (b:=2147483648)
      rw [Int.neg_neg] at this
      rw [this,Int.tmod_eq_emod_of_nonneg (by omega)]; omega
    · rw [Int.tmod_eq_emod_of_nonneg h']; omega
  · exact Aa2 h
theorem Aa4 {r x:Int} {Q:Int→Prop} (hQ:Q (Aa1 r x)):TN r x Q:=by
  unfold TN; unfold Aa1 at hQ
  refine BU (fun h=>?_) (fun h=>BU (fun h2=>?_) (fun h2=>BU (fun h3=>?_) (fun h3=>?_)))
  · rwa [if_pos h] at hQ
  · rwa [if_neg h,if_pos h2] at hQ
  · rwa [if_neg h,if_neg h2,if_pos h3] at hQ
  · rwa [if_neg h,if_neg h2,if_neg h3] at hQ
theorem wY {r x:Int} {Q:Int→Prop} (hQ:Q (wX r x)):QU r x Q:=by
  unfold QU; unfold wX at hQ
  refine BU (fun h=>?_) (fun h=>Aa4 ?_)
  · rwa [if_pos h] at hQ
  · rwa [if_neg h] at hQ
def eX (r:Int):Int:=if r<1∨5<r then 1 else r
theorem Ac0 (r:Int):1≤eX r∧eX r≤5:=by unfold eX; split <;> omega
theorem pZ {r:Int} {Q:Int→Prop} (hQ:Q (eX r)):PR r Q:=by
  unfold PR; unfold eX at hQ
  refine AD (fun h=>?_) (fun h=>AD (fun h2=>?_) (fun h2=>?_))
  · rwa [if_pos (.inl h)] at hQ
  · rwa [if_pos (.inr h2)] at hQ
  · rwa [if_neg (by omega)] at hQ
def Ac1 (g:Int→Int) (t:AC):AC:=⟨t.Row,t.Col,g t.Val⟩
theorem tD {rows cols:Int} {T:List AC} (h:Canon rows cols T) (g:Int→Int):Canon rows cols (T.map (Ac1 g)) where
  r0:=h.r0
  r1:=h.r1
  c0:=h.c0
  c1:=h.c1
  len:=by rw [List.length_map]; exact h.len
  srt:=by unfold Srt; rw [List.pairwise_map]; exact h.srt
  inn:=by
    intro t ht
    obtain ⟨x,hx,rfl⟩:=List.mem_map.1 ht
    exact h.inn x hx
theorem tE (rows cols:Int) (T:List AC) (g:Int→Int):AZ rows cols (T.map (Ac1 g)) = { AZ rows cols T with Val:=T.map fun t=>g t.Val }:=by
  unfold AZ
  have e:EF (T.map (Ac1 g))=EF T:=by
    funext j
    unfold EF
    rw [List.countP_map]; rfl
  rw [e,List.map_map,List.map_map]; rfl
theorem dP {a:II} {Q:Rows→Prop} (h1:WS .u8 a.Size.1∧WS .u8 a.Size.2) (h2:∀ t∈a.L,LK t) (hQ:∀ T,Canon (JY a.Size.1) (JY a.Size.2) T→(∀ t∈T,HJ t.Val)→Q (AZ (JY a.Size.1) (JY a.Size.2) T)):FK a Q:=by
  unfold FK
  refine AbZ h1 h2 fun T hT hv=>pZ ?_
  have hTl:=hT.len
  have hVl:(AZ (JY a.Size.1) (JY a.Size.2) T).Val=T.map (·.Val):=rfl
  refine zZ (xs:=(AZ (JY a.Size.1) (JY a.Size.2) T).Val) (f:=wX (eX a.Ring)) (by rw [hVl,List.length_map]; omega) (fun i s next hi hs hn=>?_) (fun next s hs=>?_)
  · have hi':i<T.length:=by rw [hVl,List.length_map] at hi; exact hi
    exact AD (fun _=>BH hi (wY (BJ (by simp; omega) hn))) (fun h=>by omega)
  · refine AD (fun h=>by omega) (fun _=>?_)
    have:=hQ (T.map (Ac1 (wX (eX a.Ring)))) (tD hT _) (fun t ht=>by
      obtain ⟨x,hx,rfl⟩:=List.mem_map.1 ht
      exact Aa3 (hv x hx))
    rw [tE] at this
    rw [hVl,List.map_map] at hs
    subst hs
    exact this
theorem RO {x:Int} (h0:0≤x) (h1:x≤39):WS .u8 x:=by
  have:∀ n:Fin 40,WS .u8 (n.val:Int):=by unfold WS; decide
  have:=this ⟨x.toNat,by omega⟩
  simpa only [Int.toNat_of_nonneg h0] using this
theorem wZ (a b:AN):WU a b∨WU b a:=by unfold WU; omega
theorem Aa5 {a b:AN} (h:WU a b) (h':WU b a):a=b:=by unfold WU at *; exact LL (by omega) (by omega)
theorem xA {a b c:AN} (h:WU a b) (h':WU b c):WU a c:=by unfold WU at *; omega
def fQ (a b:AN):AN:=if WU a b then a else b
theorem xB (a b:AN):fQ a b=fQ b a:=by
  unfold fQ
  by_cases h:WU a b <;> by_cases h':WU b a
  · rw [if_pos h,if_pos h']; exact Aa5 h h'
  · rw [if_pos h,if_neg h']
  · rw [if_neg h,if_pos h']
  · rcases wZ a b with e | e
    · exact absurd e h
    · exact absurd e h'
theorem tF (a b c:AN):fQ (fQ a b) c=fQ a (fQ b c):=by
  unfold fQ
  by_cases h1:WU a b <;> by_cases h2:WU b c <;> by_cases h3:WU a c <;> simp only [h1,h2,h3,if_true,if_false]
  · exact absurd (xA h1 h2) h3
  · exfalso; unfold WU at *; omega
theorem xC {r:Int} {a b:AN} (ha:NJ a) (hb:NJ b):GN r a b=GN r b a:=by
  by_cases h:r=1∨r=3∨r=4
  · have e:∀ a b,GN r a b=fQ a b:=fun a b=>by unfold GN fQ; rw [if_pos h]
    rw [e,e]; exact xB a b
  · by_cases h2:r=2
    · unfold GN
      rw [if_neg h,if_pos h2,if_neg h,if_pos h2]
      by_cases e1:a=⟨0,0⟩ <;> by_cases e2:b=⟨0,0⟩ <;> simp [e1,e2]
    · by_cases h5:r=5
      · subst h5
        rw [cC ha,cC hb,LZ,LZ,Int.add_comm]
      · unfold GN; rw [if_neg h,if_neg h2,if_neg h5,if_neg h,if_neg h2,if_neg h5]
theorem tG {r:Int} {a b c:AN} (ha:NJ a) (hb:NJ b) (hc:NJ c):GN r (GN r a b) c=GN r a (GN r b c):=by
  by_cases h:r=1∨r=3∨r=4
  · have e:∀ a b,GN r a b=fQ a b:=fun a b=>by unfold GN fQ; rw [if_pos h]
    simp only [e]; exact tF a b c
  · by_cases h2:r=2
    · have e:∀ a b,GN r a b=if a=⟨0,0⟩∧b=⟨0,0⟩ then ⟨0,0⟩ else ⟨0,1⟩:=fun a b=>by unfold GN; rw [if_neg h,if_pos h2]
      have n1:(⟨0,1⟩:AN)≠⟨0,0⟩:=by decide
      simp only [e]
      by_cases e1:a=⟨0,0⟩ <;> by_cases e2:b=⟨0,0⟩ <;> by_cases e3:c=⟨0,0⟩ <;> simp [e1,e2,e3]
    · by_cases h5:r=5
      · subst h5
        rw [cC ha,cC hb,cC hc,LZ,LZ,LZ,LZ,Int.add_assoc]
      · unfold GN
        simp only [if_neg h,if_neg h2,if_neg h5]
def okO (o:Option AN):Prop:=∀ w,o=some w→NJ w
theorem Aa6 {r:Int} {a b:Option AN} (ha:okO a) (hb:okO b):fO r a b=fO r b a:=by
  cases a with
  | none=>cases b <;> rfl
  | some x=>cases b with
    | none=>rfl
    | some y=>simp only [fO]; rw [xC (ha x rfl) (hb y rfl)]
theorem VD {r:Int} {a b c:Option AN} (ha:okO a) (hb:okO b) (hc:okO c):fO r (fO r a b) c=fO r a (fO r b c):=by
  cases a with
  | none=>cases b <;> rfl
  | some x=>cases b with
    | none=>cases c <;> rfl
    | some y=>cases c with
      | none=>rfl
      | some z=>simp only [fO]; rw [tG (ha x rfl) (hb y rfl) (hc z rfl)]
theorem lG (r:Int) (n:Nat) (A B:Int→Option Int):aD r (n+1) A B=iO r A B (aD r n A B) n:=by
  unfold aD; rw [List.range_succ,List.foldl_append]; rfl
theorem qA (r:Int) (k:Nat) (A B:Int→Option Int):∀ m:Nat,aD r (k+m) A B=fO r (aD r k A B) (aD r m (fun j=>A (j+k)) (fun j=>B (j+k)))
  | 0=>by rw [Nat.add_zero,show aD r 0 (fun j=>A (j+k)) (fun j=>B (j+k))=none from rfl,NL]
  | m+1=>by
    rw [←Nat.add_assoc,lG,lG,qA r k A B m]
    have ho:=pY r m (fun j=>A (j+k)) (fun j=>B (j+k))
    generalize aD r m (fun j=>A (j+k)) (fun j=>B (j+k))=o at ho ⊢
    unfold iO
    rw [show (((k+m:Nat):Int))=(m:Int)+k by omega]
    simp only
    cases hA:A ((m:Int)+k) with
    | none=>rfl
    | some a=>cases hB:B ((m:Int)+k) with
      | none=>rfl
      | some x=>
        have hm:okO (some (aC r a x)):=fun w hw=>by
          have:=Option.some.inj hw
          subst this; exact NM _ _ _
        exact VD (pY r k A B) ho hm
theorem aF {r:Int} {n:Nat} {A A' B B':Int→Option Int} (hA:∀ j:Nat,j<n→A j=A' j) (hB:∀ j:Nat,j<n→B j=B' j):aD r n A B=aD r n A' B':=by
  unfold aD
  refine WH fun acc k hk=>?_
  have hk:=List.mem_range.1 hk
  unfold iO
  rw [hA k hk,hB k hk]
theorem Ac2 {l:List CF} (h:IncI l) {i a:Int}:YZ l i=some a↔(⟨i,a⟩:CF)∈l:=⟨nE,fun hm=>vP h hm⟩
theorem Ac3 {x y:Option Int} (h:∀ a,x=some a↔y=some a):x=y:=by
  cases x with
  | none=>cases y with
    | none=>rfl
    | some b=>have:=(h b).2 rfl; cases this
  | some a=>exact ((h a).1 rfl).symm
end Go.Proofs.YtbohadngdkjljaaGreat
