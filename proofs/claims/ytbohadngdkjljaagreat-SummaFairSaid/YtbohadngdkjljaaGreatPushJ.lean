import Derived.Test.YtbohadngdkjljaaGreatPushB
namespace Go.Proofs.YtbohadngdkjljaaGreat
open Go Go.Fw
set_option linter.unusedVariables false
set_option linter.unusedSimpArgs false
def NZ (z:Int):AN:=⟨AJ (z / 18446744073709551616),z % 18446744073709551616⟩
theorem JQ (z:Int):NL (NZ z):=by unfold NL NZ; simp only [GM]; omega
theorem LV (x y:Int):GN 5 (NZ x) (NZ y)=NZ (x+y):=by
  have e:GN 5 (NZ x) (NZ y)=⟨AJ ((NZ x).Hi+(NZ y).Hi+(if 18446744073709551616≤(NZ x).Lo+(NZ y).Lo then 1 else 0)),((NZ x).Lo+(NZ y).Lo) % 18446744073709551616⟩:=rfl
  rw [e]
  unfold NZ
  apply LH
  · simp only [GM]; split <;> omega
  · simp only; omega
theorem IL {v:Int} (h:GL v):aS v=NZ v:=by
  unfold aS NZ GL at *
  apply LH
  · simp only [GM]; split <;> omega
  · rfl
theorem vN {hi lo:Int} (h0:0≤lo) (h1:lo<18446744073709551616):(⟨AJ hi,lo⟩:AN)=NZ (hi*18446744073709551616+lo):=by
  unfold NZ
  apply LH
  · simp only [GM]; omega
  · simp only; omega
theorem AeR {x:Int} (k:Nat) (hk:k≤64):shr .u64 x k=x / 2 ^ k:=by
  unfold shr
  rw [Int.fdiv_eq_ediv_of_nonneg _ (Int.le_of_lt (Int.pow_pos (by omega)))]
  have:min (Int.toNat (k:Int)) (IntKind.bits .u64)=k:=by simp [IntKind.bits]; omega
  rw [this]
theorem AcV {x:Int} (k:Nat) (hk:k≤64):shl .u64 x k=(x*2 ^ k) % 18446744073709551616:=by
  unfold shl
  rw [OS]
  have:min (Int.toNat (k:Int)) (IntKind.bits .u64)=k:=by simp [IntKind.bits]; omega
  rw [this]
theorem dM (x:Int) (h0:0≤x) (h1:x<18446744073709551616):(BitVec.ofInt 64 x).toNat=x.toNat:=by
  rw [BitVec.toNat_ofInt]
  congr 1
  exact Int.emod_eq_of_lt h0 (by simpa using h1)
theorem AbU {x y:Int} (hx0:0≤x) (hx1:x<18446744073709551616) (hy0:0≤y) (hy1:y<18446744073709551616):bor .u64 x y=((x.toNat ||| y.toNat:Nat):Int):=by
  unfold bor
  have e:(BitVec.ofInt (IntKind.bits .u64) x ||| BitVec.ofInt (IntKind.bits .u64) y).toNat=x.toNat ||| y.toNat:=by
    show (BitVec.ofInt 64 x ||| BitVec.ofInt 64 y).toNat=_
    rw [BitVec.toNat_or,dM x hx0 hx1,dM y hy0 hy1]
  rw [e,OS]
  have:x.toNat ||| y.toNat<2 ^ 64:=Nat.or_lt_two_pow (by omega) (by omega)
  omega
theorem tG {h l:Int} (hh0:0≤h) (hh1:h<4294967296) (hl0:0≤l) (hl1:l<4294967296):bor .u64 (h*4294967296) l=h*4294967296+l:=by
  rw [AbU (by omega) (by omega) hl0 (by omega)]
  have e:(h*4294967296).toNat=h.toNat <<< 32:=by rw [Nat.shiftLeft_eq]; omega
  rw [e,←Nat.shiftLeft_add_eq_or_of_lt (by omega),Nat.shiftLeft_eq]
  omega
theorem zT {x:Int} (h0:0≤x) (h1:x<18446744073709551616):YW .u64 18446744073709551615 x=18446744073709551615 - x:=by
  unfold YW
  have e:(BitVec.ofInt (IntKind.bits .u64) 18446744073709551615 ^^^ BitVec.ofInt (IntKind.bits .u64) x).toNat=2 ^ 64 - 1 - x.toNat:=by
    show (BitVec.allOnes 64 ^^^ BitVec.ofInt 64 x).toNat=_
    rw [BitVec.allOnes_xor,BitVec.toNat_not,dM x h0 h1]
  rw [e,OS]
  omega
theorem zU {x:Int} (h:GL x):YW .i64 (-1) x = -1 - x:=by
  unfold YW
  have e:(BitVec.ofInt (IntKind.bits .i64) (-1) ^^^ BitVec.ofInt (IntKind.bits .i64) x).toNat=2 ^ 64 - 1 - (x % 18446744073709551616).toNat:=by
    show (BitVec.ofInt 64 (-1) ^^^ BitVec.ofInt 64 x).toNat=_
    rw [show BitVec.ofInt 64 (-1)=BitVec.allOnes 64 by decide,BitVec.allOnes_xor,BitVec.toNat_not,BitVec.toNat_ofInt]
    rfl
  rw [e]
  show AJ _=_
  rw [GM]
  unfold GL at h
  omega
theorem RJ {x:Int} {Q:Int×Int→Prop} (h0:0≤x) (h1:x<18446744073709551616) (hQ:Q (x % 4294967296,x / 4294967296)):GZ x Q:=by
  unfold GZ
  have e1:shl .u64 x 32=(x*4294967296) % 18446744073709551616:=AcV 32 (by omega)
  have e2:∀ y,shr .u64 y 32=y / 4294967296:=fun y=>AeR 32 (by omega)
  rw [e1,e2,e2]
  rwa [show x*4294967296 % 18446744073709551616 / 4294967296=x % 4294967296 by omega]
theorem tH {a b:Int} {Q:AN→Prop} (ha0:0≤a) (ha1:a<18446744073709551616) (hb0:0≤b) (hb1:b<18446744073709551616) (hQ:Q (NZ (a*b))):QO a b Q:=by
  unfold QO
  have hlt:∀ x y:Int,0≤x→x<4294967296→0≤y→y<4294967296→0≤x*y∧x*y≤18446744065119617025:=by
    intro x y h1 h2 h3 h4
    refine ⟨Int.mul_nonneg h1 h3,?_⟩
    have:=Int.mul_le_mul (show x≤4294967295 by omega) (show y≤4294967295 by omega) h3 (by omega)
    omega
  refine RJ ha0 ha1 (RJ hb0 hb1 ?_)
  simp only
  obtain ⟨x0,hx0⟩:∃ x0,x0=a % 4294967296:=⟨_,rfl⟩
  obtain ⟨x1,hx1⟩:∃ x1,x1=a / 4294967296:=⟨_,rfl⟩
  obtain ⟨y0,hy0⟩:∃ y0,y0=b % 4294967296:=⟨_,rfl⟩
  obtain ⟨y1,hy1⟩:∃ y1,y1=b / 4294967296:=⟨_,rfl⟩
  rw [←hx0,←hx1,←hy0,←hy1]
  have hab:a*b=x1*y1*18446744073709551616+(x1*y0+x0*y1)*4294967296+x0*y0:=by
    have e1:a=x1*4294967296+x0:=by omega
    have e2:b=y1*4294967296+y0:=by omega
    rw [e1,e2,Int.add_mul,Int.mul_add,Int.mul_add]
    have q1:x1*4294967296*(y1*4294967296)=x1*y1*18446744073709551616:=by rw [Int.mul_assoc,Int.mul_left_comm 4294967296 y1,←Int.mul_assoc x1]; rfl
    have q2:x1*4294967296*y0=x1*y0*4294967296:=Int.mul_right_comm _ _ _
    have q3:x0*(y1*4294967296)=x0*y1*4294967296:=(Int.mul_assoc _ _ _).symm
    rw [q1,q2,q3]; omega
  obtain ⟨b00,c00⟩:=hlt x0 y0 (by omega) (by omega) (by omega) (by omega)
  obtain ⟨b01,c01⟩:=hlt x0 y1 (by omega) (by omega) (by omega) (by omega)
  obtain ⟨b10,c10⟩:=hlt x1 y0 (by omega) (by omega) (by omega) (by omega)
  obtain ⟨b11,c11⟩:=hlt x1 y1 (by omega) (by omega) (by omega) (by omega)
  generalize x0*y0=p00 at *
  generalize x0*y1=p01 at *
  generalize x1*y0=p10 at *
  generalize x1*y1=p11 at *
  simp only [OS]
  refine RJ (by omega) (by omega) ?_
  simp only
  refine RJ (by omega) (by omega) ?_
  simp only
  refine RJ (by omega) (by omega) (RJ (by omega) (by omega) ?_)
  simp only
  have e3:∀ y,shl .u64 y 32=(y*4294967296) % 18446744073709551616:=fun y=>AcV 32 (by omega)
  rw [e3]
  have e4:∀ y:Int,(y % 4294967296*4294967296) % 18446744073709551616=y % 4294967296*4294967296:=fun y=>by omega
  rw [e4,tG (by omega) (by omega) (by omega) (by omega),vN (by omega) (by omega)]
  rw [hab] at hQ
  have hfin:NZ (((((p11 % 18446744073709551616+(p10 % 18446744073709551616+p00 % 18446744073709551616 / 4294967296) % 18446744073709551616 / 4294967296) % 18446744073709551616+(p01 % 18446744073709551616+(p10 % 18446744073709551616+p00 % 18446744073709551616 / 4294967296) % 18446744073709551616 % 4294967296) % 18446744073709551616 / 4294967296) % 18446744073709551616)*18446744073709551616+((p01 % 18446744073709551616+(p10 % 18446744073709551616+p00 % 18446744073709551616 / 4294967296) % 18446744073709551616 % 4294967296) % 18446744073709551616 % 4294967296*4294967296+p00 % 18446744073709551616 % 4294967296)))=NZ (p11*18446744073709551616+(p10+p01)*4294967296+p00):=by
    unfold NZ
    apply LH
    · simp only [GM]; omega
    · simp only; omega
  rw [hfin]; exact hQ
theorem bW {a:AN} (h:NL a):a=NZ (a.Hi*18446744073709551616+a.Lo):=by
  unfold NL at h
  rw [←vN (by omega) (by omega)]
  apply LH
  · simp only [GM]; omega
  · rfl
theorem zV {x:Int} {Q:AN→Prop} (hQ:Q (NZ (-x))):bH ⟨0,0⟩ (NZ x) Q:=by
  unfold bH SA
  have key:∀ c:Int,(c=if 0<(NZ x).Lo then 1 else 0)→(⟨AJ ((((0 % 18446744073709551616) - ((NZ x).Hi % 18446744073709551616)) % 18446744073709551616 - c) % 18446744073709551616),(0 - (NZ x).Lo) % 18446744073709551616⟩:AN)=NZ (-x):=by
    intro c hc
    unfold NZ at *
    subst hc
    apply LH
    · simp only [GM]; split <;> omega
    · simp only; omega
  simp only [OS]
  refine AB (fun h=>?_) (fun h=>?_)
  · rw [key 1 (by rw [if_pos h])]; exact hQ
  · rw [key 0 (by rw [if_neg h])]; exact hQ
theorem qD {a b:Int} {Q:AN→Prop} (ha:GL a) (hb:GL b) (hQ:Q (NZ (a*b))):bI a b Q:=by
  unfold bI
  unfold GL at ha hb
  have hs:∀ {x:Int} {K:Int→Prop},-9223372036854775808≤x∧x≤9223372036854775807→K (if x<0 then -x else x)→UW x K:=by
    intro x K hx hK
    unfold UW
    simp only [OS]
    refine AB (fun h=>?_) (fun h=>?_)
    · rw [if_pos h] at hK; rwa [show (0 - x % 18446744073709551616) % 18446744073709551616 = -x by omega]
    · rw [if_neg h] at hK; rwa [show x % 18446744073709551616=x by omega]
  refine hs ha (hs hb ?_)
  have m1 : -a*b = -(a*b):=Int.neg_mul _ _
  have m2:a * -b = -(a*b):=Int.mul_neg _ _
  have m3 : -a * -b=a*b:=Int.neg_mul_neg _ _
  refine tH (by split <;> omega) (by split <;> omega) (by split <;> omega) (by split <;> omega) ?_
  by_cases h1:a<0 <;> by_cases h2:b<0
  · rw [if_pos h1,if_pos h2,m3]
    exact AV (by simp [h1,h2]) hQ
  · rw [if_pos h1,if_neg h2,m1]
    exact BJ (by simp [h1,h2]) (zV (by rwa [Int.neg_neg]))
  · rw [if_neg h1,if_pos h2,m2]
    exact BJ (by simp [h1,h2]) (zV (by rwa [Int.neg_neg]))
  · rw [if_neg h1,if_neg h2]
    exact AV (by simp [h1,h2]) hQ
theorem zW {x:Int} {Q:AN→Prop} (hQ:Q (NZ (-x))):TM (NZ x) Q:=by
  unfold TM
  have hx:=JQ x
  unfold NL at hx
  have e:(⟨YW .i64 (-1) (NZ x).Hi,YW .u64 18446744073709551615 (NZ x).Lo⟩:AN)=NZ (-x - 1):=by
    rw [zU (by unfold GL; omega),zT (by omega) (by omega)]
    unfold NZ
    apply LH
    · simp only [GM]; omega
    · simp only; omega
  have e1:(⟨0,1⟩:AN)=NZ 1:=by decide
  rw [e,e1]
  refine KR (JQ _) (JQ _) ?_
  rw [LV,show -x - 1+1 = -x by omega]; exact hQ
theorem nG {a b:Int} {Q:AN→Prop} (ha:GL a) (hb:GL b) (hQ:Q (NZ (a*b))):YL a b Q:=by
  unfold YL
  have hb':=hb
  unfold GL at hb'
  refine FH ha (EA (fun t:Int=>t=if b<0 then -b else b) ?_ ?_)
  · rintro t ht
    rw [IL ha]
    have ht0:0≤t∧t≤9223372036854775808:=by subst ht; split <;> omega
    refine DZ (fun s:Int×Int×Int×Int×Int=>∃ A z,(⟨s.1,s.2.1⟩:AN)=NZ A∧(⟨s.2.2.2.1,s.2.2.2.2⟩:AN)=NZ z∧0≤s.2.2.1∧s.2.2.1≤9223372036854775808∧z+A*s.2.2.1=a*t) (fun s=>s.2.2.1.toNat) ⟨a,0,rfl,(by decide:(⟨0,0⟩:AN)=NZ 0),ht0.1,ht0.2,by simp⟩ ?_
    rintro ⟨s1,s2,s3,s4,s5⟩ next ⟨A,z,hA,hz,h0,h1,he⟩ hn
    simp only at hA hz h0 h1 he ⊢
    have e2:IntKind.wrap .u64 (s3.tdiv 2)=s3 / 2:=by rw [OS,Int.tdiv_eq_ediv_of_nonneg h0]; omega
    refine AB (fun hp=>BR (fun ho=>?_) (fun ho=>?_)) (fun hp=>?_)
    · rw [hz,hA]
      refine KR (JQ _) (JQ _) (KR (JQ _) (JQ _) ?_)
      rw [LV,LV,e2]
      rw [Int.tmod_eq_emod_of_nonneg h0] at ho
      refine hn _ ⟨A+A,z+A,rfl,rfl,by simp only; omega,by simp only; omega,?_⟩ (by simp only; omega)
      simp only
      obtain ⟨m,hm⟩:∃ m,s3=2*m+1:=⟨s3 / 2,by omega⟩
      rw [show s3 / 2=m by omega,←he,hm,Int.add_mul,Int.mul_add,Int.mul_one,Int.mul_left_comm]; omega
    · rw [hA]
      refine KR (JQ _) (JQ _) ?_
      rw [LV,e2]
      rw [Int.tmod_eq_emod_of_nonneg h0] at ho
      refine hn _ ⟨A+A,z,rfl,hz,by simp only; omega,by simp only; omega,?_⟩ (by simp only; omega)
      simp only
      obtain ⟨m,hm⟩:∃ m,s3=2*m:=⟨s3 / 2,by omega⟩
      rw [show s3 / 2=m by omega,←he,hm,Int.add_mul,Int.mul_left_comm]; omega
    · have e0:s3=0:=by omega
      subst e0
      rw [Int.mul_zero,Int.add_zero] at he
      rw [hz,he]
      refine AB (fun h=>zW ?_) (fun h=>?_)
      · rw [ht,if_pos h,Int.mul_neg,Int.neg_neg]; exact hQ
      · rw [ht,if_neg h]; exact hQ
  · intro k hk
    simp only [OS]
    refine AB (fun h=>hk _ ?_) (fun h=>hk _ ?_)
    · rw [if_pos h]; omega
    · rw [if_neg h]; omega
def ZZ (r a x:Int):AN:=
  if r=2 then (if a≠0∧x≠0 then ⟨0,1⟩ else ⟨0,0⟩)
  else if r=5 then NZ (a*x)
  else if r=1∨r=3∨r=4 then
    (if 4611686018427387904≤a∨4611686018427387904≤x then NZ 4611686018427387904
     else if r=3 then NZ a else if r=4 then NZ x else if WP (NZ 4611686018427387904) (NZ (a+x)) then NZ 4611686018427387904 else NZ (a+x))
  else ⟨0,0⟩
theorem NO (r a x:Int):NL (ZZ r a x):=by
  have h0:NL ⟨0,0⟩:=by unfold NL; simp
  have h1:NL ⟨0,1⟩:=by unfold NL; simp
  unfold ZZ
  repeat' split
  all_goals first | exact JQ _ | exact h0 | exact h1
theorem nH {x y:Int} (hx : -170141183460469231731687303715884105728≤x∧x<170141183460469231731687303715884105728) (hy : -170141183460469231731687303715884105728≤y∧y<170141183460469231731687303715884105728):WP (NZ x) (NZ y)↔x≤y:=by
  have h:∀ z:Int,-170141183460469231731687303715884105728≤z∧z<170141183460469231731687303715884105728→AJ (z / 18446744073709551616)=z / 18446744073709551616:=by
    intro z hz; rw [GM]; omega
  unfold WP NZ
  simp only [h x hx,h y hy]
  omega
theorem qE {r a x:Int} {Q:AN→Prop} (ha:GL a) (hx:GL x) (hQ:Q (ZZ r a x)):bJ r a x Q:=by
  unfold bJ
  unfold ZZ at hQ
  have ia:GL 4611686018427387904:=by unfold GL; omega
  refine BR (fun h=>?_) (fun h=>BR (fun h5=>?_) (fun h5=>?_))
  · rw [if_pos h] at hQ
    refine DI (fun h1=>bS ?_) (fun h1=>bS ?_)
    · simpa [h1] using hQ
    · simpa [h1] using hQ
  · rw [if_neg h,if_pos h5] at hQ
    exact qD ha hx hQ
  · rw [if_neg h,if_neg h5] at hQ
    have emax:(if x > a then x else a)≥4611686018427387904↔4611686018427387904≤a∨4611686018427387904≤x:=by split <;> omega
    refine EA (fun _=>¬((1≤r∧r≤5)∧(4611686018427387904≤a∨4611686018427387904≤x))) ?_ ?_
    · rintro _ hno
      refine EA (fun p:Int×Int=>(⟨p.1,p.2⟩:AN)=NZ (if r=1 then a else 0)∧(r=1∨r=4)) ?_ ?_
      · rintro ⟨p1,p2⟩ ⟨hp,hr⟩
        simp only at hp ⊢
        refine KF ia (KF hx ?_)
        rw [hp,IL ia,IL hx]
        refine eX (JQ _) (JQ _) (lD ?_)
        rw [LV]
        rw [if_pos (by omega),if_neg (by omega),if_neg (by omega)] at hQ
        rcases hr with hr | hr
        · rw [if_pos hr]; rwa [if_neg (by omega)] at hQ
        · rw [if_neg (show ¬r=1 by omega),show (0:Int)+x=x by omega]
          rw [if_pos hr] at hQ
          unfold GL at hx
          rwa [if_neg (by rw [nH (by omega) (by omega)]; omega)]
      · intro k hk
        refine BR (fun h1=>KF ha (hk _ ⟨?_,.inl h1⟩)) (fun h1=>BR (fun h4=>hk _ ⟨?_,.inr h4⟩) (fun h4=>BR (fun h3=>KF ha ?_) (fun h3=>?_)))
        · rw [if_pos h1]; exact IL ha
        · rw [if_neg h1]; decide
        · rw [if_pos (by omega),if_neg (by omega),if_pos h3] at hQ
          rw [IL ha]; exact hQ
        · rw [if_neg (by omega)] at hQ; exact hQ
    · intro k hk
      refine MD ⟨fun h1=>AB (fun h2=>KF ia ?_) (fun h2=>hk _ ?_),fun h1=>hk _ ?_⟩
      · have h1:=of_decide_eq_true h1
        rw [if_pos (by omega),if_pos (emax.1 h2)] at hQ
        rw [IL ia]; exact hQ
      · exact fun h'=>h2 (emax.2 h'.2)
      · exact fun h'=>of_decide_eq_false h1 h'.1
theorem tI {a b:AN} {Q:Int→Prop} (h1:¬WP b a→Q (-1)) (h2:a=b→Q 0) (h3:¬WP a b→Q 1):HI a b Q:=by
  unfold HI
  refine EA (fun _=>WP b a) (fun _ hb=>BR h2 (fun e=>h3 fun hab=>e ?_)) fun k hk=>?_
  · unfold WP at hb hab; exact LH (by omega) (by omega)
  · refine AB (fun h=>h1 ?_) (fun h=>BR (fun e=>AB (fun h'=>h1 ?_) (fun h'=>hk () ?_)) (fun e=>hk () ?_))
    all_goals (unfold WP; omega)
theorem nI {r a x:Int} {Q:AN→Prop} (ha:GL a) (hx:GL x) (hQ:Q (ZZ r a x)):YM r a x Q:=by
  unfold YM
  unfold ZZ at hQ
  have ia:GL 4611686018427387904:=by unfold GL; omega
  refine EA (fun b:Bool=>b=decide (4611686018427387904≤a∨4611686018427387904≤x)) ?_ ?_
  · rintro b rfl
    refine BR (fun h1=>?_) (fun h1=>BR (fun h3=>?_) (fun h3=>BR (fun h4=>?_) (fun h4=>BR (fun h2=>?_) (fun h2=>BR (fun h5=>?_) (fun h5=>?_)))))
    · rw [if_neg (by omega),if_neg (by omega),if_pos (by omega)] at hQ
      refine FH ha (FH hx ?_)
      rw [IL ha,IL hx]
      refine KR (JQ _) (JQ _) ?_
      rw [LV]
      refine AB (fun h=>FH ia ?_) (fun h=>FH ia ?_)
      · rw [if_pos h] at hQ; rw [IL ia]; exact hQ
      · rw [if_neg h,if_neg (by omega),if_neg (by omega)] at hQ
        rw [IL ia]
        unfold GL at ha hx
        have hb:WP (NZ 4611686018427387904) (NZ (a+x))↔4611686018427387904≤a+x:=nH (by omega) (by omega)
        have hc:WP (NZ (a+x)) (NZ 4611686018427387904)↔a+x≤4611686018427387904:=nH (by omega) (by omega)
        refine tI (fun hlt=>AB (fun h'=>by omega) (fun _=>?_)) (fun he=>AB (fun h'=>by omega) (fun _=>?_)) (fun hgt=>AB (fun _=>FH ia ?_) (fun h'=>by omega))
        · rwa [if_neg hlt] at hQ
        · rw [if_pos (by rw [he]; unfold WP; omega)] at hQ; rwa [he]
        · rw [if_pos (by rw [hb]; rw [hc] at hgt; omega)] at hQ; rw [IL ia]; exact hQ
    · rw [if_neg (by omega),if_neg (by omega),if_pos (by omega)] at hQ
      refine AB (fun h=>FH ia ?_) (fun h=>FH ha ?_)
      · rw [if_pos h] at hQ; rw [IL ia]; exact hQ
      · rw [if_neg h,if_pos h3] at hQ; rw [IL ha]; exact hQ
    · rw [if_neg (by omega),if_neg (by omega),if_pos (by omega)] at hQ
      refine AB (fun h=>FH ia ?_) (fun h=>FH hx ?_)
      · rw [if_pos h] at hQ; rw [IL ia]; exact hQ
      · rw [if_neg h,if_neg (by omega),if_pos h4] at hQ; rw [IL hx]; exact hQ
    · rw [if_pos h2] at hQ
      refine DI (fun h1=>NM ?_) (fun h1=>NM ?_)
      · simpa [h1] using hQ
      · simpa [h1] using hQ
    · rw [if_neg h2,if_pos h5] at hQ
      exact nG ha hx hQ
    · rw [if_neg h2,if_neg h5,if_neg (by omega)] at hQ; exact hQ
  · intro k hk
    refine AB (fun h=>hk _ ?_) (fun h=>hk _ ?_)
    · simp [h]
    · simp [h]
def IncI (l:List CE):Prop:=l.Pairwise fun a b=>a.At<b.At
instance (l:List CE):Decidable (IncI l):=by unfold IncI; infer_instance
structure Af4 (v:Vec):Prop where
  n0:0≤v.N
  n1:v.N≤4096
  inc:IncI v.Items
  ins:∀ x∈v.Items,0≤x.At∧x.At<v.N
instance (v:Vec):Decidable (Af4 v):=decidable_of_iff (0≤v.N∧v.N≤4096∧IncI v.Items∧∀ x∈v.Items,0≤x.At∧x.At<v.N) ⟨fun ⟨a,b,c,d⟩=>⟨a,b,c,d⟩,fun ⟨a,b,c,d⟩=>⟨a,b,c,d⟩⟩
theorem IncI.at {l:List CE} (h:IncI l) {i j:Nat} (hj:j<l.length) (hij:i<j):(l[i]'(by omega)).At<l[j].At:=by
  unfold IncI at h; rw [List.pairwise_iff_getElem] at h; exact h i j (by omega) hj hij
theorem zX {α β:Type} {xs:List α} {f:α→β} {body:List β×Int→(List β×Int→Prop)→Prop} (hl:xs.length≤1000000000)
    (hs:∀ (i:Nat) (s:List β) (next:List β×Int→Prop) (hi:i<xs.length),s.length=i→(next (s++[f xs[i]],AJ ((i:Int)+1)))→body (s,(i:Int)) next)
    (he:∀ (next:List β×Int→Prop) s,s=xs.map f→body (s,(xs.length:Int)) next):BN body ([],0):=by
  refine BB (fun (s:List β) i=>(s,i)) 0 xs.length (by omega) (fun k s=>s=(xs.take k).map f) (by omega) (by simp) (fun k s next _ hk hs' hn=>?_) (fun s next hs'=>?_)
  · refine hs k s next hk (by subst hs'; simp; omega) (hn _ ?_)
    subst hs'
    rw [List.take_succ_eq_append_getElem hk,List.map_append]; rfl
  · rw [List.take_length] at hs'
    exact he next s hs'
def kvI (x:CE):Int×Int:=(x.At,x.Val)
def YY (l:List CE) (i:Int):Option Int:=BT i (l.map kvI)
theorem LJ (s:CE) (l:List CE) (i:Int):YY (s :: l) i=if i=s.At then some s.Val else YY l i:=rfl
theorem bX:∀ {l:List CE} {i:Int},(∀ s∈l,s.At≠i)→YY l i=none
  | [],_,_=>rfl
  | s :: l,i,h=>by rw [LJ,if_neg (fun e=>h s (by simp) e.symm)]; exact bX fun x hx=>h x (by simp [hx])
theorem nJ:∀ {l:List CE} {i:Int} {v:Int},YY l i=some v→⟨i,v⟩∈l
  | s :: l,i,v,h=>by
    rw [LJ] at h
    split at h
    · rename_i e; cases h; subst e; simp
    · exact List.mem_cons_of_mem _ (nJ h)
theorem vO:∀ {l:List CE} (h:IncI l) {s:CE},s∈l→YY l s.At=some s.Val
  | x :: l,h,s,hs=>by
    unfold IncI at h
    rw [List.pairwise_cons] at h
    rw [LJ]
    rcases List.mem_cons.1 hs with e | hs
    · subst e; rw [if_pos rfl]
    · have:=h.1 s hs
      rw [if_neg (by omega)]; exact vO h.2 hs
theorem SP:∀ (l:List CE) (m:List CE) (i:Int),YY (l++m) i=match YY l i with | some v=>some v | none=>YY m i
  | [],m,i=>rfl
  | s :: l,m,i=>by
    rw [List.cons_append,LJ,LJ]
    split
    · rfl
    · exact SP l m i
def AeS (o:Option Int):Int×Bool:=match o with | some v=>(v,true) | none=>(0,false)
def iK (r:Int) (A B:Int→Option Int) (acc:Option AN) (k:Int):Option AN:=match A k,B k with | some a,some x=>fN r acc (some (ZZ r a x)) | _,_=>acc
def aA (r:Int) (n:Nat) (A B:Int→Option Int):Option AN:=(List.range n).foldl (fun acc (k:Nat)=>iK r A B acc k) none
theorem wW {r:Int} {A B:Int→Option Int} {acc:Option AN} (h:∀ w,acc=some w→NL w) (k:Int):∀ w,iK r A B acc k=some w→NL w:=by
  intro w hw
  unfold iK at hw
  split at hw
  · cases acc with
    | none=>cases hw; exact NO _ _ _
    | some b=>cases hw; exact UY (h b rfl) (NO _ _ _)
  · exact h w hw
theorem qF (r:Int) (n:Nat) (A B:Int→Option Int):∀ w,aA r n A B=some w→NL w:=by
  unfold aA
  induction n with
  | zero=>intro w hw; cases hw
  | succ n ih=>rw [List.range_succ,List.foldl_append]; exact wW ih n
theorem WD {β γ:Type} {f g:β→γ→β}:∀ {l:List γ} {a:β},(∀ acc k,k∈l→f acc k=g acc k)→l.foldl f a=l.foldl g a
  | [],_,_=>rfl
  | x :: l,a,h=>by rw [List.foldl_cons,List.foldl_cons,h a x (by simp)]; exact WD fun acc k hk=>h acc k (by simp [hk])
theorem bY {β:Type} {step:β→Int→Int→β} {a:β}:∀ {n:Nat} {l:List CE},IncI l→(∀ x∈l,0≤x.At∧x.At<n) →
    l.foldl (fun acc x=>step acc x.At x.Val) a=(List.range n).foldl (fun acc (k:Nat)=>match YY l k with | some v=>step acc k v | none=>acc) a
  | 0,l,h,hi=>by
    cases l with
    | nil=>rfl
    | cons x l=>have:=hi x (by simp); omega
  | n+1,l,h,hi=>by
    rw [List.range_succ,List.foldl_append]
    simp only [List.foldl_cons,List.foldl_nil]
    have hc:l=[]∨∃ p y,l=p++[y]:=by
      rcases List.eq_nil_or_concat l with h | ⟨p,y,h⟩
      · exact .inl h
      · exact .inr ⟨p,y,by rw [h,List.concat_eq_append]⟩
    have old:∀ {l:List CE},IncI l→(∀ x∈l,0≤x.At∧x.At<n)→YY l n=none:=fun _ hi=>bX fun s hs=>by have:=hi s hs; omega
    rcases hc with e | ⟨p,y,e⟩
    · subst e
      rw [←bY (n:=n) (l:=[]) h (by simp)]; rfl
    · subst e
      have hp:IncI p:=(List.pairwise_append.1 h).1
      have hlt:∀ x∈p,x.At<y.At:=fun x hx=>(List.pairwise_append.1 h).2.2 x hx y (by simp)
      by_cases ey:y.At=n
      · have hpin:∀ x∈p,0≤x.At∧x.At<n:=fun x hx=>⟨(hi x (by simp [hx])).1,by have:=hlt x hx; omega⟩
        have e1:YY (p++[y]) n=some y.Val:=by rw [SP,old hp hpin,LJ,if_pos ey.symm]
        rw [e1,List.foldl_append,bY hp hpin]
        simp only [List.foldl_cons,List.foldl_nil,ey]
        congr 1
        refine WD fun acc k hk=>?_
        have hk:=List.mem_range.1 hk
        have:YY (p++[y]) k=YY p k:=by rw [SP,LJ,if_neg (by omega)]; cases YY p k <;> rfl
        rw [this]
      · have hin:∀ x∈p++[y],0≤x.At∧x.At<n:=by
          intro x hx
          have h1:=hi x hx
          refine ⟨h1.1,?_⟩
          have hy:=hi y (by simp)
          rcases List.mem_append.1 hx with hx | hx
          · have:=hlt x hx; omega
          · simp only [List.mem_singleton] at hx; subst hx; omega
        rw [old h hin,bY h hin]
def MQ (r:Int) (B:Int→Option Int) (acc:Option AN) (y:CE):Option AN:=match B y.At with | some x=>fN r acc (some (ZZ r y.Val x)) | none=>acc
theorem wX {r:Int} {B:Int→Option Int} {acc:Option AN} (h:∀ w,acc=some w→NL w) (y:CE):∀ w,MQ r B acc y=some w→NL w:=by
  intro w hw
  unfold MQ at hw
  split at hw
  · cases acc with
    | none=>cases hw; exact NO _ _ _
    | some b=>cases hw; exact UY (h b rfl) (NO _ _ _)
  · exact h w hw
theorem dN (r:Int) (B:Int→Option Int):∀ (l:List CE) (acc:Option AN),(∀ w,acc=some w→NL w)→∀ w,l.foldl (MQ r B) acc=some w→NL w
  | [],acc,h=>h
  | y :: l,acc,h=>dN r B l _ (wX h y)
theorem zY {r:Int} {B:Int→Option Int} {n:Nat} {l:List CE} (h:IncI l) (hi:∀ x∈l,0≤x.At∧x.At<n):l.foldl (MQ r B) none=aA r n (YY l) B:=by
  have:=bY (step:=fun acc k a=>match B k with | some x=>fN r acc (some (ZZ r a x)) | none=>acc) (a:=none) h hi
  refine this.trans (WD fun acc k _=>?_)
  unfold iK
  cases YY l (k:Int) <;> cases B (k:Int) <;> rfl
def fO (ts:List AC) (i:Int):List CE:=(KH ts i.toNat).map RH
def zS (r:Int):Int:=if r=1∨r=3∨r=4 then 4611686018427387904 else 0
theorem nK {r:Int} {Q:Int→Prop} (hQ:Q (zS r)):UX r Q:=by
  unfold UX; unfold zS at hQ
  refine BR (fun h=>?_) (fun h=>BR (fun h3=>?_) (fun h3=>BR (fun h4=>?_) (fun h4=>?_)))
  · rwa [if_pos (.inl h)] at hQ
  · rwa [if_pos (.inr (.inl h3))] at hQ
  · rwa [if_pos (.inr (.inr h4))] at hQ
  · rwa [if_neg (by omega)] at hQ
theorem jU {r:Int} {Q:Int→Prop} (hQ:Q (zS r)):VU r Q:=by
  unfold VU XO; unfold zS at hQ
  have h1:(r=1∨r=3∨r=4)→AQ true (Q 4611686018427387904) (Q 0):=fun h=>BJ rfl (by rwa [if_pos h] at hQ)
  refine BR (fun h=>h1 (.inl h)) (fun h=>BR (fun h3=>h1 (.inr (.inl h3))) (fun h3=>BR (fun h4=>?_) (fun h4=>?_)))
  · rwa [if_pos (.inr (.inr h4))] at hQ
  · rwa [if_neg (by omega)] at hQ
def JR (x:Int):Int:=x % 40
theorem vP {x:Int} {Q:Int→Prop} (h:YC .u8 x) (hQ:Q (JR x)):SG x Q:=by
  unfold SG
  have hb:=bounds_u8 h
  rw [AZ (by omega) (by omega),Int.tmod_eq_emod_of_nonneg (by omega)]
  exact hQ
theorem vQ (x:Int):0≤JR x∧JR x≤39:=by unfold JR; omega
theorem AbV {a0:Int×Int} {ts:List AC} {Q:Rows→Prop} (h0:YC .u8 a0.1∧YC .u8 a0.2) (hv:∀ t∈ts,LG t)
    (hQ:∀ T,Canon (JR a0.1) (JR a0.2) T→(∀ t∈T,GL t.Val)→Q (AX (JR a0.1) (JR a0.2) T)):VT a0 ts Q:=by
  unfold VT
  have r0:=vQ a0.1; have c0:=vQ a0.2
  refine vP h0.1 (vP h0.2 (AdG fun ys hl hm=>?_))
  refine BB (fun (s:List AC) i=>(s,i)) 0 ys.length (by omega) (fun i s=>s.length≤i∧∀ t∈s,GL t.Val) (by omega) (s0:=[]) ⟨by simp,by simp⟩ (fun i s next _ hi hm2 hn=>?_) (fun s next hm2=>?_)
  · obtain ⟨hs1,hs2⟩:=hm2
    dsimp only
    refine AB (fun _=>?_) (fun h=>by omega)
    have hskip:next (s,AJ ((i:Int)+1)):=hn s ⟨by omega,hs2⟩
    refine BA hi (AB (fun _=>hskip) (fun _=>AB (fun _=>hskip) (fun _=>BR (fun _=>hskip) (fun g1=>BR (fun _=>hskip) (fun g2=>⟨g1,g2,?_⟩)))))
    have hx:GL ys[i].Val:=AbR (hv _ (hm _ (List.getElem_mem hi))).2.2
    refine BK (by simp only [List.length_singleton]; omega) (hn _ ⟨by simp; omega,fun t ht=>?_⟩)
    rcases List.mem_append.1 ht with ht | ht
    · exact hs2 t ht
    · simp at ht; subst ht; exact hx
  · obtain ⟨hs1,hs2⟩:=hm2
    dsimp only
    refine AB (fun h=>by omega) (fun _=>?_)
    refine YN (by omega) hs2 ?_
    rcases qC (r:=1) (rows:=JR a0.1) (cols:=JR a0.2) hs2 with ⟨h1,h2⟩ | ⟨T,hT,he,_,_,_,_,hTe,_⟩
    · refine BJ (by simpa using h2) ?_
      unfold JZ
      have e:AJ (JR a0.1+1)=JR a0.1+1:=AZ (by omega) (by omega)
      rw [e]
      refine ⟨by omega,by omega,?_⟩
      have:=hQ [] ⟨r0.1,by omega,c0.1,by omega,by simp,.nil,by simp⟩ (by simp)
      unfold AX at this
      have e2:(JR a0.1+1).toNat=(JR a0.1).toNat+1:=by omega
      rw [e2,dL]
      exact this
    · rw [he]
      refine AV (by simp) (hQ T hT fun t ht=>?_)
      rw [hTe] at ht
      unfold PT at ht
      split at ht
      · obtain ⟨p,_,rfl⟩:=List.mem_map.1 ht
        exact AbS p.2
      · simp at ht
def zZ (r x:Int):Int:=if r=5 then x else if r=2 then oU .i64 x 1 else if (oU .i64 x 4611686018427387903).tmod 5=0 then 4611686018427387904 else oU .i64 x 4611686018427387903
def wY (r x:Int):Int:=if r=5 then x.tmod 2147483648 else zZ r x
theorem vR (x y:Int):GL (oU .i64 x y):=by
  unfold oU GL
  show -9223372036854775808≤AJ _∧AJ _≤9223372036854775807
  rw [GM]; omega
theorem Aa0 {r x:Int} (h:GL x):GL (zZ r x):=by
  unfold zZ
  repeat' split
  · exact h
  · exact vR _ _
  · unfold GL; omega
  · exact vR _ _
theorem Aa1 {r x:Int} (h:GL x):GL (wY r x):=by
  unfold wY
  split
  · unfold GL at *
    rcases Int.lt_or_le x 0 with h' | h'
    · have:=Int.neg_tmod (a:=-x) (b:=2147483648)
      rw [Int.neg_neg] at this
      rw [this,Int.tmod_eq_emod_of_nonneg (by omega)]; omega
    · rw [Int.tmod_eq_emod_of_nonneg h']; omega
  · exact Aa0 h
theorem Aa2 {r x:Int} {Q:Int→Prop} (hQ:Q (zZ r x)):TK r x Q:=by
  unfold TK; unfold zZ at hQ
  refine BR (fun h=>?_) (fun h=>BR (fun h2=>?_) (fun h2=>BR (fun h3=>?_) (fun h3=>?_)))
  · rwa [if_pos h] at hQ
  · rwa [if_neg h,if_pos h2] at hQ
  · rwa [if_neg h,if_neg h2,if_pos h3] at hQ
  · rwa [if_neg h,if_neg h2,if_neg h3] at hQ
theorem wZ {r x:Int} {Q:Int→Prop} (hQ:Q (wY r x)):QQ r x Q:=by
  unfold QQ; unfold wY at hQ
  refine BR (fun h=>?_) (fun h=>Aa2 ?_)
  · rwa [if_pos h] at hQ
  · rwa [if_neg h] at hQ
def eZ (r:Int):Int:=if r<1∨5<r then 1 else r
theorem AbW (r:Int):1≤eZ r∧eZ r≤5:=by unfold eZ; split <;> omega
theorem qG {r:Int} {Q:Int→Prop} (hQ:Q (eZ r)):PO r Q:=by
  unfold PO; unfold eZ at hQ
  refine AB (fun h=>?_) (fun h=>AB (fun h2=>?_) (fun h2=>?_))
  · rwa [if_pos (.inl h)] at hQ
  · rwa [if_pos (.inr h2)] at hQ
  · rwa [if_neg (by omega)] at hQ
def AbX (g:Int→Int) (t:AC):AC:=⟨t.Row,t.Col,g t.Val⟩
theorem tJ {rows cols:Int} {T:List AC} (h:Canon rows cols T) (g:Int→Int):Canon rows cols (T.map (AbX g)) where
  r0:=h.r0
  r1:=h.r1
  c0:=h.c0
  c1:=h.c1
  len:=by rw [List.length_map]; exact h.len
  srt:=by unfold Srt; rw [List.pairwise_map]; exact h.srt
  inn:=by
    intro t ht
    obtain ⟨x,hx,rfl⟩:=List.mem_map.1 ht
    exact h.inn x hx
theorem tK (rows cols:Int) (T:List AC) (g:Int→Int):AX rows cols (T.map (AbX g)) = { AX rows cols T with Val:=T.map fun t=>g t.Val }:=by
  unfold AX
  have e:EF (T.map (AbX g))=EF T:=by
    funext j
    unfold EF
    rw [List.countP_map]; rfl
  rw [e,List.map_map,List.map_map]; rfl
theorem dO {a:IE} {Q:Rows→Prop} (h1:YC .u8 a.Size.1∧YC .u8 a.Size.2) (h2:∀ t∈a.L,LG t) (hQ:∀ T,Canon (JR a.Size.1) (JR a.Size.2) T→(∀ t∈T,GL t.Val)→Q (AX (JR a.Size.1) (JR a.Size.2) T)):FJ a Q:=by
  unfold FJ
  refine AbV h1 h2 fun T hT hv=>qG ?_
  have hTl:=hT.len
  have hVl:(AX (JR a.Size.1) (JR a.Size.2) T).Val=T.map (·.Val):=rfl
  refine zX (xs:=(AX (JR a.Size.1) (JR a.Size.2) T).Val) (f:=wY (eZ a.Ring)) (by rw [hVl,List.length_map]; omega) (fun i s next hi hs hn=>?_) (fun next s hs=>?_)
  · have hi':i<T.length:=by rw [hVl,List.length_map] at hi; exact hi
    exact AB (fun _=>BA hi (wZ (BK (by simp; omega) hn))) (fun h=>by omega)
  · refine AB (fun h=>by omega) (fun _=>?_)
    have:=hQ (T.map (AbX (wY (eZ a.Ring)))) (tJ hT _) (fun t ht=>by
      obtain ⟨x,hx,rfl⟩:=List.mem_map.1 ht
      exact Aa1 (hv x hx))
    rw [tK] at this
    rw [hVl,List.map_map] at hs
    subst hs
    exact this
theorem RK {x:Int} (h0:0≤x) (h1:x≤39):YC .u8 x:=by
  have:∀ n:Fin 40,YC .u8 (n.val:Int):=by unfold YC; decide
  have:=this ⟨x.toNat,by omega⟩
  simpa only [Int.toNat_of_nonneg h0] using this
theorem xA (a b:AN):WP a b∨WP b a:=by unfold WP; omega
theorem Aa3 {a b:AN} (h:WP a b) (h':WP b a):a=b:=by unfold WP at *; exact LH (by omega) (by omega)
theorem xB {a b c:AN} (h:WP a b) (h':WP b c):WP a c:=by unfold WP at *; omega
def fP (a b:AN):AN:=if WP a b then a else b
theorem xC (a b:AN):fP a b=fP b a:=by
  unfold fP
  by_cases h:WP a b <;> by_cases h':WP b a
  · rw [if_pos h,if_pos h']; exact Aa3 h h'
  · rw [if_pos h,if_neg h']
  · rw [if_neg h,if_pos h']
  · rcases xA a b with e | e
    · exact absurd e h
    · exact absurd e h'
theorem tL (a b c:AN):fP (fP a b) c=fP a (fP b c):=by
  unfold fP
  by_cases h1:WP a b <;> by_cases h2:WP b c <;> by_cases h3:WP a c <;> simp only [h1,h2,h3,if_true,if_false]
  · exact absurd (xB h1 h2) h3
  · exfalso; unfold WP at *; omega
theorem xD {r:Int} {a b:AN} (ha:NL a) (hb:NL b):GN r a b=GN r b a:=by
  by_cases h:r=1∨r=3∨r=4
  · have e:∀ a b,GN r a b=fP a b:=fun a b=>by unfold GN fP; rw [if_pos h]
    rw [e,e]; exact xC a b
  · by_cases h2:r=2
    · unfold GN
      rw [if_neg h,if_pos h2,if_neg h,if_pos h2]
      by_cases e1:a=⟨0,0⟩ <;> by_cases e2:b=⟨0,0⟩ <;> simp [e1,e2]
    · by_cases h5:r=5
      · subst h5
        rw [bW ha,bW hb,LV,LV,Int.add_comm]
      · unfold GN; rw [if_neg h,if_neg h2,if_neg h5,if_neg h,if_neg h2,if_neg h5]
theorem tM {r:Int} {a b c:AN} (ha:NL a) (hb:NL b) (hc:NL c):GN r (GN r a b) c=GN r a (GN r b c):=by
  by_cases h:r=1∨r=3∨r=4
  · have e:∀ a b,GN r a b=fP a b:=fun a b=>by unfold GN fP; rw [if_pos h]
    simp only [e]; exact tL a b c
  · by_cases h2:r=2
    · have e:∀ a b,GN r a b=if a=⟨0,0⟩∧b=⟨0,0⟩ then ⟨0,0⟩ else ⟨0,1⟩:=fun a b=>by unfold GN; rw [if_neg h,if_pos h2]
      have n1:(⟨0,1⟩:AN)≠⟨0,0⟩:=by decide
      simp only [e]
      by_cases e1:a=⟨0,0⟩ <;> by_cases e2:b=⟨0,0⟩ <;> by_cases e3:c=⟨0,0⟩ <;> simp [e1,e2,e3]
    · by_cases h5:r=5
      · subst h5
        rw [bW ha,bW hb,bW hc,LV,LV,LV,LV,Int.add_assoc]
      · unfold GN
        simp only [if_neg h,if_neg h2,if_neg h5]
def okO (o:Option AN):Prop:=∀ w,o=some w→NL w
theorem Aa4 {r:Int} {a b:Option AN} (ha:okO a) (hb:okO b):fN r a b=fN r b a:=by
  cases a with
  | none=>cases b <;> rfl
  | some x=>cases b with
    | none=>rfl
    | some y=>simp only [fN]; rw [xD (ha x rfl) (hb y rfl)]
theorem VB {r:Int} {a b c:Option AN} (ha:okO a) (hb:okO b) (hc:okO c):fN r (fN r a b) c=fN r a (fN r b c):=by
  cases a with
  | none=>cases b <;> rfl
  | some x=>cases b with
    | none=>cases c <;> rfl
    | some y=>cases c with
      | none=>rfl
      | some z=>simp only [fN]; rw [tM (ha x rfl) (hb y rfl) (hc z rfl)]
theorem lI (r:Int) (n:Nat) (A B:Int→Option Int):aA r (n+1) A B=iK r A B (aA r n A B) n:=by
  unfold aA; rw [List.range_succ,List.foldl_append]; rfl
theorem qH (r:Int) (k:Nat) (A B:Int→Option Int):∀ m:Nat,aA r (k+m) A B=fN r (aA r k A B) (aA r m (fun j=>A (j+k)) (fun j=>B (j+k)))
  | 0=>by rw [Nat.add_zero,show aA r 0 (fun j=>A (j+k)) (fun j=>B (j+k))=none from rfl,NN]
  | m+1=>by
    rw [←Nat.add_assoc,lI,lI,qH r k A B m]
    have ho:=qF r m (fun j=>A (j+k)) (fun j=>B (j+k))
    generalize aA r m (fun j=>A (j+k)) (fun j=>B (j+k))=o at ho ⊢
    unfold iK
    rw [show (((k+m:Nat):Int))=(m:Int)+k by omega]
    simp only
    cases hA:A ((m:Int)+k) with
    | none=>rfl
    | some a=>cases hB:B ((m:Int)+k) with
      | none=>rfl
      | some x=>
        have hm:okO (some (ZZ r a x)):=fun w hw=>by
          have:=Option.some.inj hw
          subst this; exact NO _ _ _
        exact VB (qF r k A B) ho hm
theorem aB {r:Int} {n:Nat} {A A' B B':Int→Option Int} (hA:∀ j:Nat,j<n→A j=A' j) (hB:∀ j:Nat,j<n→B j=B' j):aA r n A B=aA r n A' B':=by
  unfold aA
  refine WD fun acc k hk=>?_
  have hk:=List.mem_range.1 hk
  unfold iK
  rw [hA k hk,hB k hk]
theorem AbY {l:List CE} (h:IncI l) {i a:Int}:YY l i=some a↔(⟨i,a⟩:CE)∈l:=⟨nJ,fun hm=>vO h hm⟩
theorem AbZ {x y:Option Int} (h:∀ a,x=some a↔y=some a):x=y:=by
  cases x with
  | none=>cases y with
    | none=>rfl
    | some b=>have:=(h b).2 rfl; cases this
  | some a=>exact ((h a).1 rfl).symm
end Go.Proofs.YtbohadngdkjljaaGreat
