import Derived.Test.YtbohadngdkjljaaGreatPushB
namespace Go.Proofs.YtbohadngdkjljaaGreat
open Go Go.Fw
set_option linter.unusedVariables false
set_option linter.unusedSimpArgs false
def N7 (z:Int):AL:=⟨A7 (z / 18446744073709551616),z % 18446744073709551616⟩
theorem JB (z:Int):LG (N7 z):=by unfold LG N7; simp only [G3]; omega
theorem LH (x y:Int):F1 5 (N7 x) (N7 y)=N7 (x+y):=by
 have e:F1 5 (N7 x) (N7 y)=⟨A7 ((N7 x).Hi+(N7 y).Hi+(if 18446744073709551616≤(N7 x).Lo+(N7 y).Lo then 1 else 0)),((N7 x).Lo+(N7 y).Lo) % 18446744073709551616⟩:=rfl
 rw [e]
 unfold N7
 apply KV
 · simp only [G3]; split <;> omega
 · simp only; omega
theorem ID {v:Int} (h:GM v):Z2 v=N7 v:=by
 unfold Z2 N7 GM at *
 apply KV
 · simp only [G3]; split <;> omega
 · rfl
theorem tI {hi lo:Int} (h0:0≤lo) (h1:lo<18446744073709551616):(⟨A7 hi,lo⟩:AL)=N7 (hi*18446744073709551616+lo):=by
 unfold N7
 apply KV
 · simp only [G3]; omega
 · simp only; omega
theorem AdO {x:Int} (k:Nat) (hk:k≤64):shr .u64 x k=x / 2 ^ k:=by
 unfold shr
 rw [Int.fdiv_eq_ediv_of_nonneg _ (Int.le_of_lt (Int.pow_pos (by omega)))]
 have:min (Int.toNat (k:Int)) (IntKind.bits .u64)=k:=by simp [IntKind.bits]; omega
 rw [this]
theorem Ac4 {x:Int} (k:Nat) (hk:k≤64):shl .u64 x k=(x*2 ^ k) % 18446744073709551616:=by
 unfold shl
 rw [NM]
 have:min (Int.toNat (k:Int)) (IntKind.bits .u64)=k:=by simp [IntKind.bits]; omega
 rw [this]
theorem bU (x:Int) (D:0≤x) (h:x<18446744073709551616):(BitVec.ofInt 64 x).toNat=x.toNat:=by
 rw [BitVec.toNat_ofInt]
 congr 1
 exact Int.emod_eq_of_lt D (by simpa using h)
theorem AaU {x y:Int} (h:0≤x) (G:x<18446744073709551616) (J:0≤y) (D:y<18446744073709551616):bor .u64 x y=((x.toNat ||| y.toNat:Nat):Int):=by
 unfold bor
 have e:(BitVec.ofInt (IntKind.bits .u64) x ||| BitVec.ofInt (IntKind.bits .u64) y).toNat=x.toNat ||| y.toNat:=by
  show (BitVec.ofInt 64 x ||| BitVec.ofInt 64 y).toNat=_
  rw [BitVec.toNat_or,bU x h G,bU y J D]
 rw [e,NM]
 have:x.toNat ||| y.toNat<2 ^ 64:=Nat.or_lt_two_pow (by omega) (by omega)
 omega
theorem rB {h l:Int} (G:0≤h) (J:h<4294967296) (D:0≤l) (O:l<4294967296):bor .u64 (h*4294967296) l=h*4294967296+l:=by
 rw [AaU (by omega) (by omega) D (by omega)]
 have e:(h*4294967296).toNat=h.toNat <<< 32:=by rw [Nat.shiftLeft_eq]; omega
 rw [e,←Nat.shiftLeft_add_eq_or_of_lt (by omega),Nat.shiftLeft_eq]
 omega
theorem xX {x:Int} (D:0≤x) (h:x<18446744073709551616):Z4 .u64 18446744073709551615 x=18446744073709551615 - x:=by
 unfold Z4
 have e:(BitVec.ofInt (IntKind.bits .u64) 18446744073709551615 ^^^ BitVec.ofInt (IntKind.bits .u64) x).toNat=2 ^ 64 - 1 - x.toNat:=by
  show (BitVec.allOnes 64 ^^^ BitVec.ofInt 64 x).toNat=_
  rw [BitVec.allOnes_xor,BitVec.toNat_not,bU x D h]
 rw [e,NM]
 omega
theorem xY {x:Int} (h:GM x):Z4 .i64 (-1) x = -1 - x:=by
 unfold Z4
 have e:(BitVec.ofInt (IntKind.bits .i64) (-1) ^^^ BitVec.ofInt (IntKind.bits .i64) x).toNat=2 ^ 64 - 1 - (x % 18446744073709551616).toNat:=by
  show (BitVec.ofInt 64 (-1) ^^^ BitVec.ofInt 64 x).toNat=_
  rw [show BitVec.ofInt 64 (-1)=BitVec.allOnes 64 by decide,BitVec.allOnes_xor,BitVec.toNat_not,BitVec.toNat_ofInt]
  rfl
 rw [e]
 show A7 _=_
 rw [G3]
 unfold GM at h
 omega
theorem PW {x:Int} {Q:Int×Int→Prop} (h0:0≤x) (h1:x<18446744073709551616) (hQ:Q (x % 4294967296,x / 4294967296)):GD x Q:=by
 unfold GD
 have D:shl .u64 x 32=(x*4294967296) % 18446744073709551616:=Ac4 32 (by omega)
 have h:∀ y,shr .u64 y 32=y / 4294967296:=fun y=>AdO 32 (by omega)
 rw [D,h,h]
 rwa [show x*4294967296 % 18446744073709551616 / 4294967296=x % 4294967296 by omega]
theorem rC {a b:Int} {Q:AL→Prop} (ha0:0≤a) (ha1:a<18446744073709551616) (hb0:0≤b) (hb1:b<18446744073709551616) (hQ:Q (N7 (a*b))):PD a b Q:=by
 unfold PD
 have U:∀ x y:Int,0≤x→x<4294967296→0≤y→y<4294967296→0≤x*y∧x*y≤18446744065119617025:=by
  intro x y h1 h2 h3 h4
  refine ⟨Int.mul_nonneg h1 h3,?_⟩
  have:=Int.mul_le_mul (show x≤4294967295 by omega) (show y≤4294967295 by omega) h3 (by omega)
  omega
 refine PW ha0 ha1 (PW hb0 hb1 ?_)
 simp only
 obtain ⟨G,hx0⟩:∃ G,G=a % 4294967296:=⟨_,rfl⟩
 obtain ⟨D,Z⟩:∃ D,D=a / 4294967296:=⟨_,rfl⟩
 obtain ⟨J,hy0⟩:∃ J,J=b % 4294967296:=⟨_,rfl⟩
 obtain ⟨h,hy1⟩:∃ h,h=b / 4294967296:=⟨_,rfl⟩
 rw [←hx0,←Z,←hy0,←hy1]
 have hab:a*b=D*h*18446744073709551616+(D*J+G*h)*4294967296+G*J:=by
  have e1:a=D*4294967296+G:=by omega
  have e2:b=h*4294967296+J:=by omega
  rw [e1,e2,Int.add_mul,Int.mul_add,Int.mul_add]
  have q1:D*4294967296*(h*4294967296)=D*h*18446744073709551616:=by rw [Int.mul_assoc,Int.mul_left_comm 4294967296 h,←Int.mul_assoc D]; rfl
  have q2:D*4294967296*J=D*J*4294967296:=Int.mul_right_comm _ _ _
  have q3:G*(h*4294967296)=G*h*4294967296:=(Int.mul_assoc _ _ _).symm
  rw [q1,q2,q3]; omega
 obtain ⟨b00,c00⟩:=U G J (by omega) (by omega) (by omega) (by omega)
 obtain ⟨b01,c01⟩:=U G h (by omega) (by omega) (by omega) (by omega)
 obtain ⟨b10,c10⟩:=U D J (by omega) (by omega) (by omega) (by omega)
 obtain ⟨b11,c11⟩:=U D h (by omega) (by omega) (by omega) (by omega)
 generalize G*J=O at *
 generalize G*h=V at *
 generalize D*J=p10 at *
 generalize D*h=Y at *
 simp only [NM]
 refine PW (by omega) (by omega) ?_
 simp only
 refine PW (by omega) (by omega) ?_
 simp only
 refine PW (by omega) (by omega) (PW (by omega) (by omega) ?_)
 simp only
 have e3:∀ y,shl .u64 y 32=(y*4294967296) % 18446744073709551616:=fun y=>Ac4 32 (by omega)
 rw [e3]
 have e4:∀ y:Int,(y % 4294967296*4294967296) % 18446744073709551616=y % 4294967296*4294967296:=fun y=>by omega
 rw [e4,rB (by omega) (by omega) (by omega) (by omega),tI (by omega) (by omega)]
 rw [hab] at hQ
 have W:N7 (((((Y % 18446744073709551616+(p10 % 18446744073709551616+O % 18446744073709551616 / 4294967296) % 18446744073709551616 / 4294967296) % 18446744073709551616+(V % 18446744073709551616+(p10 % 18446744073709551616+O % 18446744073709551616 / 4294967296) % 18446744073709551616 % 4294967296) % 18446744073709551616 / 4294967296) % 18446744073709551616)*18446744073709551616+((V % 18446744073709551616+(p10 % 18446744073709551616+O % 18446744073709551616 / 4294967296) % 18446744073709551616 % 4294967296) % 18446744073709551616 % 4294967296*4294967296+O % 18446744073709551616 % 4294967296)))=N7 (Y*18446744073709551616+(p10+V)*4294967296+O):=by
  unfold N7
  apply KV
  · simp only [G3]; omega
  · simp only; omega
 rw [W]; exact hQ
theorem ZS {a:AL} (h:LG a):a=N7 (a.Hi*18446744073709551616+a.Lo):=by
 unfold LG at h
 rw [←tI (by omega) (by omega)]
 apply KV
 · simp only [G3]; omega
 · rfl
theorem xZ {x:Int} {Q:AL→Prop} (D:Q (N7 (-x))):ZJ ⟨0,0⟩ (N7 x) Q:=by
 unfold ZJ QB
 have key:∀ c:Int,(c=if 0<(N7 x).Lo then 1 else 0)→(⟨A7 ((((0 % 18446744073709551616) - ((N7 x).Hi % 18446744073709551616)) % 18446744073709551616 - c) % 18446744073709551616),(0 - (N7 x).Lo) % 18446744073709551616⟩:AL)=N7 (-x):=by
   intro c G
   unfold N7 at *
   subst G
   apply KV
   · simp only [G3]; split <;> omega
   · simp only; omega
 simp only [NM]
 refine A0 (fun h=>?_) (fun h=>?_)
 · rw [key 1 (by rw [if_pos h])]; exact D
 · rw [key 0 (by rw [if_neg h])]; exact D
theorem oJ {a b:Int} {Q:AL→Prop} (O:GM a) (D:GM b) (G:Q (N7 (a*b))):ZK a b Q:=by
 unfold ZK
 unfold GM at O D
 have J:∀ {x:Int} {K:Int→Prop},-9223372036854775808≤x∧x≤9223372036854775807→K (if x<0 then -x else x)→SY x K:=by
   intro x K hx U
   unfold SY
   simp only [NM]
   refine A0 (fun h=>?_) (fun h=>?_)
   · rw [if_pos h] at U; rwa [show (0 - x % 18446744073709551616) % 18446744073709551616 = -x by omega]
   · rw [if_neg h] at U; rwa [show x % 18446744073709551616=x by omega]
 refine J O (J D ?_)
 have Y : -a*b = -(a*b):=Int.neg_mul _ _
 have V:a * -b = -(a*b):=Int.mul_neg _ _
 have W : -a * -b=a*b:=Int.neg_mul_neg _ _
 refine rC (by split <;> omega) (by split <;> omega) (by split <;> omega) (by split <;> omega) ?_
 by_cases h1:a<0 <;> by_cases h2:b<0
 · rw [if_pos h1,if_pos h2,W]
   exact AC (by simp [h1,h2]) G
 · rw [if_pos h1,if_neg h2,Y]
   exact AU (by simp [h1,h2]) (xZ (by rwa [Int.neg_neg]))
 · rw [if_neg h1,if_pos h2,V]
   exact AU (by simp [h1,h2]) (xZ (by rwa [Int.neg_neg]))
 · rw [if_neg h1,if_neg h2]
   exact AC (by simp [h1,h2]) G
theorem yA {x:Int} {Q:AL→Prop} (G:Q (N7 (-x))):RU (N7 x) Q:=by
 unfold RU
 have D:=JB x
 unfold LG at D
 have e:(⟨Z4 .i64 (-1) (N7 x).Hi,Z4 .u64 18446744073709551615 (N7 x).Lo⟩:AL)=N7 (-x - 1):=by
  rw [xY (by unfold GM; omega),xX (by omega) (by omega)]
  unfold N7
  apply KV
  · simp only [G3]; omega
  · simp only; omega
 have h:(⟨0,1⟩:AL)=N7 1:=by decide
 rw [e,h]
 refine KB (JB _) (JB _) ?_
 rw [LH,show -x - 1+1 = -x by omega]; exact G
theorem lG {a b:Int} {Q:AL→Prop} (ha:GM a) (hb:GM b) (hQ:Q (N7 (a*b))):WX a b Q:=by
 unfold WX
 have W:=hb
 unfold GM at W
 refine EZ ha (CA (fun t:Int=>t=if b<0 then -b else b) ?_ ?_)
 · rintro t V
   rw [ID ha]
   have G:0≤t∧t≤9223372036854775808:=by subst V; split <;> omega
   refine DA (fun s:Int×Int×Int×Int×Int=>∃ A z,(⟨s.1,s.2.1⟩:AL)=N7 A∧(⟨s.2.2.2.1,s.2.2.2.2⟩:AL)=N7 z∧0≤s.2.2.1∧s.2.2.1≤9223372036854775808∧z+A*s.2.2.1=a*t) (fun s=>s.2.2.1.toNat) ⟨a,0,rfl,(by decide:(⟨0,0⟩:AL)=N7 0),G.1,G.2,by simp⟩ ?_
   rintro ⟨s1,s2,D,s4,s5⟩ next ⟨A,z,U,O,J,h1,he⟩ hn
   simp only at U O J h1 he ⊢
   have e2:IntKind.wrap .u64 (D.tdiv 2)=D / 2:=by rw [NM,Int.tdiv_eq_ediv_of_nonneg J]; omega
   refine A0 (fun hp=>BB (fun Y=>?_) (fun Y=>?_)) (fun hp=>?_)
   · rw [O,U]
     refine KB (JB _) (JB _) (KB (JB _) (JB _) ?_)
     rw [LH,LH,e2]
     rw [Int.tmod_eq_emod_of_nonneg J] at Y
     refine hn _ ⟨A+A,z+A,rfl,rfl,by simp only; omega,by simp only; omega,?_⟩ (by simp only; omega)
     simp only
     obtain ⟨m,Z⟩:∃ m,D=2*m+1:=⟨D / 2,by omega⟩
     rw [show D / 2=m by omega,←he,Z,Int.add_mul,Int.mul_add,Int.mul_one,Int.mul_left_comm]; omega
   · rw [U]
     refine KB (JB _) (JB _) ?_
     rw [LH,e2]
     rw [Int.tmod_eq_emod_of_nonneg J] at Y
     refine hn _ ⟨A+A,z,rfl,O,by simp only; omega,by simp only; omega,?_⟩ (by simp only; omega)
     simp only
     obtain ⟨m,Z⟩:∃ m,D=2*m:=⟨D / 2,by omega⟩
     rw [show D / 2=m by omega,←he,Z,Int.add_mul,Int.mul_left_comm]; omega
   · have e0:D=0:=by omega
     subst e0
     rw [Int.mul_zero,Int.add_zero] at he
     rw [O,he]
     refine A0 (fun h=>yA ?_) (fun h=>?_)
     · rw [V,if_pos h,Int.mul_neg,Int.neg_neg]; exact hQ
     · rw [V,if_neg h]; exact hQ
 · intro k hk
   simp only [NM]
   refine A0 (fun h=>hk _ ?_) (fun h=>hk _ ?_)
   · rw [if_pos h]; omega
   · rw [if_neg h]; omega
def YK (r a x:Int):AL:=
 if r=2 then (if a≠0∧x≠0 then ⟨0,1⟩ else ⟨0,0⟩)
 else if r=5 then N7 (a*x)
 else if r=1∨r=3∨r=4 then
  (if 4611686018427387904≤a∨4611686018427387904≤x then N7 4611686018427387904
   else if r=3 then N7 a else if r=4 then N7 x else if UN (N7 4611686018427387904) (N7 (a+x)) then N7 4611686018427387904 else N7 (a+x))
 else ⟨0,0⟩
theorem MO (r a x:Int):LG (YK r a x):=by
 have h:LG ⟨0,0⟩:=by unfold LG; simp
 have D:LG ⟨0,1⟩:=by unfold LG; simp
 unfold YK
 repeat' split
 all_goals first | exact JB _ | exact h | exact D
theorem lH {x y:Int} (G : -170141183460469231731687303715884105728≤x∧x<170141183460469231731687303715884105728) (D : -170141183460469231731687303715884105728≤y∧y<170141183460469231731687303715884105728):UN (N7 x) (N7 y)↔x≤y:=by
 have h:∀ z:Int,-170141183460469231731687303715884105728≤z∧z<170141183460469231731687303715884105728→A7 (z / 18446744073709551616)=z / 18446744073709551616:=by
  intro z hz; rw [G3]; omega
 unfold UN N7
 simp only [h x G,h y D]
 omega
theorem oK {r a x:Int} {Q:AL→Prop} (O:GM a) (W:GM x) (D:Q (YK r a x)):ZL r a x Q:=by
 unfold ZL
 unfold YK at D
 have V:GM 4611686018427387904:=by unfold GM; omega
 refine BB (fun h=>?_) (fun h=>BB (fun Y=>?_) (fun Y=>?_))
 · rw [if_pos h] at D
   refine CB (fun G=>ZN ?_) (fun G=>ZN ?_)
   · simpa [G] using D
   · simpa [G] using D
 · rw [if_neg h,if_pos Y] at D
   exact oJ O W D
 · rw [if_neg h,if_neg Y] at D
   have J:(if x > a then x else a)≥4611686018427387904↔4611686018427387904≤a∨4611686018427387904≤x:=by split <;> omega
   refine CA (fun _=>¬((1≤r∧r≤5)∧(4611686018427387904≤a∨4611686018427387904≤x))) ?_ ?_
   · rintro _ hno
     refine CA (fun p:Int×Int=>(⟨p.1,p.2⟩:AL)=N7 (if r=1 then a else 0)∧(r=1∨r=4)) ?_ ?_
     · rintro ⟨p1,p2⟩ ⟨hp,U⟩
       simp only at hp ⊢
       refine JW V (JW W ?_)
       rw [hp,ID V,ID W]
       refine cZ (JB _) (JB _) (iX ?_)
       rw [LH]
       rw [if_pos (by omega),if_neg (by omega),if_neg (by omega)] at D
       rcases U with U | U
       · rw [if_pos U]; rwa [if_neg (by omega)] at D
       · rw [if_neg (show ¬r=1 by omega),show (0:Int)+x=x by omega]
         rw [if_pos U] at D
         unfold GM at W
         rwa [if_neg (by rw [lH (by omega) (by omega)]; omega)]
     · intro k hk
       refine BB (fun G=>JW O (hk _ ⟨?_,.inl G⟩)) (fun G=>BB (fun h4=>hk _ ⟨?_,.inr h4⟩) (fun h4=>BB (fun h3=>JW O ?_) (fun h3=>?_)))
       · rw [if_pos G]; exact ID O
       · rw [if_neg G]; decide
       · rw [if_pos (by omega),if_neg (by omega),if_pos h3] at D
         rw [ID O]; exact D
       · rw [if_neg (by omega)] at D; exact D
   · intro k hk
     refine JX ⟨fun G=>A0 (fun h2=>JW V ?_) (fun h2=>hk _ ?_),fun G=>hk _ ?_⟩
     · have G:=of_decide_eq_true G
       rw [if_pos (by omega),if_pos (J.1 h2)] at D
       rw [ID V]; exact D
     · exact fun Z=>h2 (J.2 Z.2)
     · exact fun Z=>of_decide_eq_false G Z.1
theorem rD {a b:AL} {Q:Int→Prop} (G:¬UN b a→Q (-1)) (U:a=b→Q 0) (V:¬UN a b→Q 1):GU a b Q:=by
 unfold GU
 refine CA (fun _=>UN b a) (fun _ J=>BB U (fun e=>V fun D=>e ?_)) fun k hk=>?_
 · unfold UN at J D; exact KV (by omega) (by omega)
 · refine A0 (fun h=>G ?_) (fun h=>BB (fun e=>A0 (fun O=>G ?_) (fun O=>hk () ?_)) (fun e=>hk () ?_))
   all_goals (unfold UN; omega)
theorem lI {r a x:Int} {Q:AL→Prop} (J:GM a) (O:GM x) (D:Q (YK r a x)):WY r a x Q:=by
 unfold WY
 unfold YK at D
 have G:GM 4611686018427387904:=by unfold GM; omega
 refine CA (fun b:Bool=>b=decide (4611686018427387904≤a∨4611686018427387904≤x)) ?_ ?_
 · rintro b rfl
   refine BB (fun U=>?_) (fun U=>BB (fun h3=>?_) (fun h3=>BB (fun h4=>?_) (fun h4=>BB (fun V=>?_) (fun V=>BB (fun W=>?_) (fun W=>?_)))))
   · rw [if_neg (by omega),if_neg (by omega),if_pos (by omega)] at D
     refine EZ J (EZ O ?_)
     rw [ID J,ID O]
     refine KB (JB _) (JB _) ?_
     rw [LH]
     refine A0 (fun h=>EZ G ?_) (fun h=>EZ G ?_)
     · rw [if_pos h] at D; rw [ID G]; exact D
     · rw [if_neg h,if_neg (by omega),if_neg (by omega)] at D
       rw [ID G]
       unfold GM at J O
       have hb:UN (N7 4611686018427387904) (N7 (a+x))↔4611686018427387904≤a+x:=lH (by omega) (by omega)
       have hc:UN (N7 (a+x)) (N7 4611686018427387904)↔a+x≤4611686018427387904:=lH (by omega) (by omega)
       refine rD (fun Y=>A0 (fun h'=>by omega) (fun _=>?_)) (fun he=>A0 (fun h'=>by omega) (fun _=>?_)) (fun Z=>A0 (fun _=>EZ G ?_) (fun h'=>by omega))
       · rwa [if_neg Y] at D
       · rw [if_pos (by rw [he]; unfold UN; omega)] at D; rwa [he]
       · rw [if_pos (by rw [hb]; rw [hc] at Z; omega)] at D; rw [ID G]; exact D
   · rw [if_neg (by omega),if_neg (by omega),if_pos (by omega)] at D
     refine A0 (fun h=>EZ G ?_) (fun h=>EZ J ?_)
     · rw [if_pos h] at D; rw [ID G]; exact D
     · rw [if_neg h,if_pos h3] at D; rw [ID J]; exact D
   · rw [if_neg (by omega),if_neg (by omega),if_pos (by omega)] at D
     refine A0 (fun h=>EZ G ?_) (fun h=>EZ O ?_)
     · rw [if_pos h] at D; rw [ID G]; exact D
     · rw [if_neg h,if_neg (by omega),if_pos h4] at D; rw [ID O]; exact D
   · rw [if_pos V] at D
     refine CB (fun U=>MM ?_) (fun U=>MM ?_)
     · simpa [U] using D
     · simpa [U] using D
   · rw [if_neg V,if_pos W] at D
     exact lG J O D
   · rw [if_neg V,if_neg W,if_neg (by omega)] at D; exact D
 · intro k hk
   refine A0 (fun h=>hk _ ?_) (fun h=>hk _ ?_)
   · simp [h]
   · simp [h]
def IncI (l:List CO):Prop:=l.Pairwise fun a b=>a.At<b.At
instance (l:List CO):Decidable (IncI l):=by unfold IncI; infer_instance
structure AeN (v:Vec):Prop where
 n0:0≤v.N
 n1:v.N≤4096
 inc:IncI v.Items
 ins:∀ x∈v.Items,0≤x.At∧x.At<v.N
instance (v:Vec):Decidable (AeN v):=decidable_of_iff (0≤v.N∧v.N≤4096∧IncI v.Items∧∀ x∈v.Items,0≤x.At∧x.At<v.N) ⟨fun ⟨a,b,c,d⟩=>⟨a,b,c,d⟩,fun ⟨a,b,c,d⟩=>⟨a,b,c,d⟩⟩
theorem IncI.at {l:List CO} (h:IncI l) {i j:Nat} (G:j<l.length) (D:i<j):(l[i]'(by omega)).At<l[j].At:=by
 unfold IncI at h; rw [List.pairwise_iff_getElem] at h; exact h i j (by omega) G D
theorem yB {α β:Type} {xs:List α} {f:α→β} {D:List β×Int→(List β×Int→Prop)→Prop} (hl:xs.length≤1000000000)
   (J:∀ (i:Nat) (s:List β) (next:List β×Int→Prop) (hi:i<xs.length),s.length=i→(next (s++[f xs[i]],A7 ((i:Int)+1)))→D (s,(i:Int)) next)
   (he:∀ (next:List β×Int→Prop) s,s=xs.map f→D (s,(xs.length:Int)) next):B2 D ([],0):=by
 refine B3 (fun (s:List β) i=>(s,i)) 0 xs.length (by omega) (fun k s=>s=(xs.take k).map f) (by omega) (by simp) (fun k s next _ hk h G=>?_) (fun s next h=>?_)
 · refine J k s next hk (by subst h; simp; omega) (G _ ?_)
   subst h
   rw [List.take_succ_eq_append_getElem hk,List.map_append]; rfl
 · rw [List.take_length] at h
   exact he next s h
def kvI (x:CO):Int×Int:=(x.At,x.Val)
def XA (l:List CO) (i:Int):Option Int:=BK i (l.map kvI)
theorem KX (s:CO) (l:List CO) (i:Int):XA (s :: l) i=if i=s.At then some s.Val else XA l i:=rfl
theorem ZT:∀ {l:List CO} {i:Int},(∀ s∈l,s.At≠i)→XA l i=none
 | [],_,_=>rfl
 | s :: l,i,h=>by rw [KX,if_neg (fun e=>h s (by simp) e.symm)]; exact ZT fun x D=>h x (by simp [D])
theorem lJ:∀ {l:List CO} {i:Int} {v:Int},XA l i=some v→⟨i,v⟩∈l
 | s :: l,i,v,h=>by
  rw [KX] at h
  split at h
  · rename_i e; cases h; subst e; simp
  · exact List.mem_cons_of_mem _ (lJ h)
theorem tJ:∀ {l:List CO} (h:IncI l) {s:CO},s∈l→XA l s.At=some s.Val
 | x :: l,h,s,hs=>by
  unfold IncI at h
  rw [List.pairwise_cons] at h
  rw [KX]
  rcases List.mem_cons.1 hs with e | hs
  · subst e; rw [if_pos rfl]
  · have:=h.1 s hs
    rw [if_neg (by omega)]; exact tJ h.2 hs
theorem QN:∀ (l:List CO) (m:List CO) (i:Int),XA (l++m) i=match XA l i with | some v=>some v | none=>XA m i
 | [],m,i=>rfl
 | s :: l,m,i=>by
  rw [List.cons_append,KX,KX]
  split
  · rfl
  · exact QN l m i
def AdP (o:Option Int):Int×Bool:=match o with | some v=>(v,true) | none=>(0,false)
def fL (r:Int) (A B:Int→Option Int) (acc:Option AL) (k:Int):Option AL:=match A k,B k with | some a,some x=>dU r acc (some (YK r a x)) | _,_=>acc
def YL (r:Int) (n:Nat) (A B:Int→Option Int):Option AL:=(List.range n).foldl (fun acc (k:Nat)=>fL r A B acc k) none
theorem uX {r:Int} {A B:Int→Option Int} {acc:Option AL} (h:∀ w,acc=some w→LG w) (k:Int):∀ w,fL r A B acc k=some w→LG w:=by
 intro w D
 unfold fL at D
 split at D
 · cases acc with
   | none=>cases D; exact MO _ _ _
   | some b=>cases D; exact QL (h b rfl) (MO _ _ _)
 · exact h w D
theorem oL (r:Int) (n:Nat) (A B:Int→Option Int):∀ w,YL r n A B=some w→LG w:=by
 unfold YL
 induction n with
 | zero=>intro w h; cases h
 | succ n D=>rw [List.range_succ,List.foldl_append]; exact uX D n
theorem U0 {β γ:Type} {f g:β→γ→β}:∀ {l:List γ} {a:β},(∀ acc k,k∈l→f acc k=g acc k)→l.foldl f a=l.foldl g a
 | [],_,_=>rfl
 | x :: l,a,h=>by rw [List.foldl_cons,List.foldl_cons,h a x (by simp)]; exact U0 fun acc k hk=>h acc k (by simp [hk])
theorem ZU {β:Type} {step:β→Int→Int→β} {a:β}:∀ {n:Nat} {l:List CO},IncI l→(∀ x∈l,0≤x.At∧x.At<n) →
  l.foldl (fun acc x=>step acc x.At x.Val) a=(List.range n).foldl (fun acc (k:Nat)=>match XA l k with | some v=>step acc k v | none=>acc) a
 | 0,l,h,hi=>by
  cases l with
  | nil=>rfl
  | cons x l=>have:=hi x (by simp); omega
 | n+1,l,h,hi=>by
  rw [List.range_succ,List.foldl_append]
  simp only [List.foldl_cons,List.foldl_nil]
  have Y:l=[]∨∃ p y,l=p++[y]:=by
    rcases List.eq_nil_or_concat l with h | ⟨p,y,h⟩
    · exact .inl h
    · exact .inr ⟨p,y,by rw [h,List.concat_eq_append]⟩
  have old:∀ {l:List CO},IncI l→(∀ x∈l,0≤x.At∧x.At<n)→XA l n=none:=fun _ hi=>ZT fun s W=>by have:=hi s W; omega
  rcases Y with e | ⟨p,y,e⟩
  · subst e
    rw [←ZU (n:=n) (l:=[]) h (by simp)]; rfl
  · subst e
    have hp:IncI p:=(List.pairwise_append.1 h).1
    have O:∀ x∈p,x.At<y.At:=fun x D=>(List.pairwise_append.1 h).2.2 x D y (by simp)
    by_cases ey:y.At=n
    · have G:∀ x∈p,0≤x.At∧x.At<n:=fun x D=>⟨(hi x (by simp [D])).1,by have:=O x D; omega⟩
      have U:XA (p++[y]) n=some y.Val:=by rw [QN,old hp G,KX,if_pos ey.symm]
      rw [U,List.foldl_append,ZU hp G]
      simp only [List.foldl_cons,List.foldl_nil,ey]
      congr 1
      refine U0 fun acc k hk=>?_
      have hk:=List.mem_range.1 hk
      have:XA (p++[y]) k=XA p k:=by rw [QN,KX,if_neg (by omega)]; cases XA p k <;> rfl
      rw [this]
    · have J:∀ x∈p++[y],0≤x.At∧x.At<n:=by
       intro x D
       have V:=hi x D
       refine ⟨V.1,?_⟩
       have hy:=hi y (by simp)
       rcases List.mem_append.1 D with D | D
       · have:=O x D; omega
       · simp only [List.mem_singleton] at D; subst D; omega
      rw [old h J,ZU h J]
def M2 (r:Int) (B:Int→Option Int) (acc:Option AL) (y:CO):Option AL:=match B y.At with | some x=>dU r acc (some (YK r y.Val x)) | none=>acc
theorem uY {r:Int} {B:Int→Option Int} {acc:Option AL} (h:∀ w,acc=some w→LG w) (y:CO):∀ w,M2 r B acc y=some w→LG w:=by
 intro w D
 unfold M2 at D
 split at D
 · cases acc with
   | none=>cases D; exact MO _ _ _
   | some b=>cases D; exact QL (h b rfl) (MO _ _ _)
 · exact h w D
theorem bV (r:Int) (B:Int→Option Int):∀ (l:List CO) (acc:Option AL),(∀ w,acc=some w→LG w)→∀ w,l.foldl (M2 r B) acc=some w→LG w
 | [],acc,h=>h
 | y :: l,acc,h=>bV r B l _ (uY h y)
theorem yC {r:Int} {B:Int→Option Int} {n:Nat} {l:List CO} (h:IncI l) (hi:∀ x∈l,0≤x.At∧x.At<n):l.foldl (M2 r B) none=YL r n (XA l) B:=by
 have:=ZU (step:=fun acc k a=>match B k with | some x=>dU r acc (some (YK r a x)) | none=>acc) (a:=none) h hi
 refine this.trans (U0 fun acc k _=>?_)
 unfold fL
 cases XA l (k:Int) <;> cases B (k:Int) <;> rfl
def dV (h:List A1) (i:Int):List CO:=(JZ h i.toNat).map PV
def zS (r:Int):Int:=if r=1∨r=3∨r=4 then 4611686018427387904 else 0
theorem lK {r:Int} {Q:Int→Prop} (D:Q (zS r)):SZ r Q:=by
 unfold SZ; unfold zS at D
 refine BB (fun h=>?_) (fun h=>BB (fun J=>?_) (fun J=>BB (fun G=>?_) (fun G=>?_)))
 · rwa [if_pos (.inl h)] at D
 · rwa [if_pos (.inr (.inl J))] at D
 · rwa [if_pos (.inr (.inr G))] at D
 · rwa [if_neg (by omega)] at D
theorem hU {r:Int} {Q:Int→Prop} (D:Q (zS r)):TP r Q:=by
 unfold TP VD; unfold zS at D
 have O:(r=1∨r=3∨r=4)→AD true (Q 4611686018427387904) (Q 0):=fun h=>AU rfl (by rwa [if_pos h] at D)
 refine BB (fun h=>O (.inl h)) (fun h=>BB (fun J=>O (.inr (.inl J))) (fun J=>BB (fun G=>?_) (fun G=>?_)))
 · rwa [if_pos (.inr (.inr G))] at D
 · rwa [if_neg (by omega)] at D
def JC (x:Int):Int:=x % 40
theorem tK {x:Int} {Q:Int→Prop} (h:SQ .u8 x) (D:Q (JC x)):QG x Q:=by
 unfold QG
 have hb:=bounds_u8 h
 rw [AH (by omega) (by omega),Int.tmod_eq_emod_of_nonneg (by omega)]
 exact D
theorem tL (x:Int):0≤JC x∧JC x≤39:=by unfold JC; omega
theorem AaV {a0:Int×Int} {Z:List A1} {Q:Rows→Prop} (h0:SQ .u8 a0.1∧SQ .u8 a0.2) (hv:∀ t∈Z,KU t)
   (W:∀ T,Canon (JC a0.1) (JC a0.2) T→(∀ t∈T,GM t.Val)→Q (B0 (JC a0.1) (JC a0.2) T)):TN a0 Z Q:=by
 unfold TN
 have r0:=tL a0.1; have c0:=tL a0.2
 refine tK h0.1 (tK h0.2 (AcS fun ys hl hm=>?_))
 refine B3 (fun (s:List A1) i=>(s,i)) 0 ys.length (by omega) (fun i s=>s.length≤i∧∀ t∈s,GM t.Val) (by omega) (s0:=[]) ⟨by simp,by simp⟩ (fun i s next _ hi O Y=>?_) (fun s next O=>?_)
 · obtain ⟨V,J⟩:=O
   dsimp only
   refine A0 (fun _=>?_) (fun h=>by omega)
   have D:next (s,A7 ((i:Int)+1)):=Y s ⟨by omega,J⟩
   refine AJ hi (A0 (fun _=>D) (fun _=>A0 (fun _=>D) (fun _=>BB (fun _=>D) (fun g1=>BB (fun _=>D) (fun g2=>⟨g1,g2,?_⟩)))))
   have hx:GM ys[i].Val:=AaR (hv _ (hm _ (List.getElem_mem hi))).2.2
   refine AQ (by simp only [List.length_singleton]; omega) (Y _ ⟨by simp; omega,fun t G=>?_⟩)
   rcases List.mem_append.1 G with G | G
   · exact J t G
   · simp at G; subst G; exact hx
 · obtain ⟨V,J⟩:=O
   dsimp only
   refine A0 (fun h=>by omega) (fun _=>?_)
   refine PU (by omega) J ?_
   rcases oI (r:=1) (rows:=JC a0.1) (cols:=JC a0.2) J with ⟨h1,h2⟩ | ⟨T,hT,he,_,_,_,_,U,_⟩
   · refine AU (by simpa using h2) ?_
     unfold DB
     have e:A7 (JC a0.1+1)=JC a0.1+1:=AH (by omega) (by omega)
     rw [e]
     refine ⟨by omega,by omega,?_⟩
     have:=W [] ⟨r0.1,by omega,c0.1,by omega,by simp,.nil,by simp⟩ (by simp)
     unfold B0 at this
     have e2:(JC a0.1+1).toNat=(JC a0.1).toNat+1:=by omega
     rw [e2,bR]
     exact this
   · rw [he]
     refine AC (by simp) (W T hT fun t G=>?_)
     rw [U] at G
     unfold OM at G
     split at G
     · obtain ⟨p,_,rfl⟩:=List.mem_map.1 G
       exact AaS p.2
     · simp at G
def yD (r x:Int):Int:=if r=5 then x else if r=2 then nC .i64 x 1 else if (nC .i64 x 4611686018427387903).tmod 5=0 then 4611686018427387904 else nC .i64 x 4611686018427387903
def uZ (r x:Int):Int:=if r=5 then x.tmod 2147483648 else yD r x
theorem tM (x y:Int):GM (nC .i64 x y):=by
 unfold nC GM
 show -9223372036854775808≤A7 _∧A7 _≤9223372036854775807
 rw [G3]; omega
theorem yE {r x:Int} (h:GM x):GM (yD r x):=by
 unfold yD
 repeat' split
 · exact h
 · exact tM _ _
 · unfold GM; omega
 · exact tM _ _
theorem yF {r x:Int} (h:GM x):GM (uZ r x):=by
 unfold uZ
 split
 · unfold GM at *
   rcases Int.lt_or_le x 0 with D | D
   · have:=Int.neg_tmod (a:=-x) (b:=2147483648)
     rw [Int.neg_neg] at this
     rw [this,Int.tmod_eq_emod_of_nonneg (by omega)]; omega
   · rw [Int.tmod_eq_emod_of_nonneg D]; omega
 · exact yE h
theorem yG {r x:Int} {Q:Int→Prop} (D:Q (yD r x)):RS r x Q:=by
 unfold RS; unfold yD at D
 refine BB (fun h=>?_) (fun h=>BB (fun G=>?_) (fun G=>BB (fun J=>?_) (fun J=>?_)))
 · rwa [if_pos h] at D
 · rwa [if_neg h,if_pos G] at D
 · rwa [if_neg h,if_neg G,if_pos J] at D
 · rwa [if_neg h,if_neg G,if_neg J] at D
theorem vC {r x:Int} {Q:Int→Prop} (D:Q (uZ r x)):PF r x Q:=by
 unfold PF; unfold uZ at D
 refine BB (fun h=>?_) (fun h=>yG ?_)
 · rwa [if_pos h] at D
 · rwa [if_neg h] at D
def dA (r:Int):Int:=if r<1∨5<r then 1 else r
theorem AaW (r:Int):1≤dA r∧dA r≤5:=by unfold dA; split <;> omega
theorem oM {r:Int} {Q:Int→Prop} (D:Q (dA r)):OD r Q:=by
 unfold OD; unfold dA at D
 refine A0 (fun h=>?_) (fun h=>A0 (fun G=>?_) (fun G=>?_))
 · rwa [if_pos (.inl h)] at D
 · rwa [if_pos (.inr G)] at D
 · rwa [if_neg (by omega)] at D
def AaX (g:Int→Int) (t:A1):A1:=⟨t.Row,t.Col,g t.Val⟩
theorem rE {rows cols:Int} {T:List A1} (h:Canon rows cols T) (g:Int→Int):Canon rows cols (T.map (AaX g)) where
 r0:=h.r0
 r1:=h.r1
 c0:=h.c0
 c1:=h.c1
 len:=by rw [List.length_map]; exact h.len
 srt:=by unfold Srt; rw [List.pairwise_map]; exact h.srt
 inn:=by
  intro t ht
  obtain ⟨x,hx,rfl⟩:=List.mem_map.1 ht
  exact h.inn x hx
theorem rF (rows cols:Int) (T:List A1) (g:Int→Int):B0 rows cols (T.map (AaX g)) = { B0 rows cols T with Val:=T.map fun t=>g t.Val }:=by
 unfold B0
 have e:E5 (T.map (AaX g))=E5 T:=by
  funext j
  unfold E5
  rw [List.countP_map]; rfl
 rw [e,List.map_map,List.map_map]; rfl
theorem bW {a:EL} {Q:Rows→Prop} (Y:SQ .u8 a.Size.1∧SQ .u8 a.Size.2) (h2:∀ t∈a.L,KU t) (W:∀ T,Canon (JC a.Size.1) (JC a.Size.2) T→(∀ t∈T,GM t.Val)→Q (B0 (JC a.Size.1) (JC a.Size.2) T)):F3 a Q:=by
 unfold F3
 refine AaV Y h2 fun T J hv=>oM ?_
 have V:=J.len
 have D:(B0 (JC a.Size.1) (JC a.Size.2) T).Val=T.map (·.Val):=rfl
 refine yB (xs:=(B0 (JC a.Size.1) (JC a.Size.2) T).Val) (f:=uZ (dA a.Ring)) (by rw [D,List.length_map]; omega) (fun i s next hi G Z=>?_) (fun next s G=>?_)
 · have U:i<T.length:=by rw [D,List.length_map] at hi; exact hi
   exact A0 (fun _=>AJ hi (vC (AQ (by simp; omega) Z))) (fun h=>by omega)
 · refine A0 (fun h=>by omega) (fun _=>?_)
   have:=W (T.map (AaX (uZ (dA a.Ring)))) (rE J _) (fun t O=>by
    obtain ⟨x,hx,rfl⟩:=List.mem_map.1 O
    exact yF (hv x hx))
   rw [rF] at this
   rw [D,List.map_map] at G
   subst G
   exact this
theorem PX {x:Int} (h:0≤x) (h1:x≤39):SQ .u8 x:=by
 have:∀ n:Fin 40,SQ .u8 (n.val:Int):=by unfold SQ; decide
 have:=this ⟨x.toNat,by omega⟩
 simpa only [Int.toNat_of_nonneg h] using this
theorem vD (a b:AL):UN a b∨UN b a:=by unfold UN; omega
theorem yH {a b:AL} (h:UN a b) (h':UN b a):a=b:=by unfold UN at *; exact KV (by omega) (by omega)
theorem vE {a b c:AL} (h:UN a b) (h':UN b c):UN a c:=by unfold UN at *; omega
def dW (a b:AL):AL:=if UN a b then a else b
theorem vF (a b:AL):dW a b=dW b a:=by
 unfold dW
 by_cases h:UN a b <;> by_cases h':UN b a
 · rw [if_pos h,if_pos h']; exact yH h h'
 · rw [if_pos h,if_neg h']
 · rw [if_neg h,if_pos h']
 · rcases vD a b with e | e
   · exact absurd e h
   · exact absurd e h'
theorem rG (a b c:AL):dW (dW a b) c=dW a (dW b c):=by
 unfold dW
 by_cases h1:UN a b <;> by_cases h2:UN b c <;> by_cases h3:UN a c <;> simp only [h1,h2,h3,if_true,if_false]
 · exact absurd (vE h1 h2) h3
 · exfalso; unfold UN at *; omega
theorem vG {r:Int} {a b:AL} (G:LG a) (D:LG b):F1 r a b=F1 r b a:=by
 by_cases h:r=1∨r=3∨r=4
 · have e:∀ a b,F1 r a b=dW a b:=fun a b=>by unfold F1 dW; rw [if_pos h]
   rw [e,e]; exact vF a b
 · by_cases h2:r=2
   · unfold F1
     rw [if_neg h,if_pos h2,if_neg h,if_pos h2]
     by_cases e1:a=⟨0,0⟩ <;> by_cases e2:b=⟨0,0⟩ <;> simp [e1,e2]
   · by_cases h5:r=5
     · subst h5
       rw [ZS G,ZS D,LH,LH,Int.add_comm]
     · unfold F1; rw [if_neg h,if_neg h2,if_neg h5,if_neg h,if_neg h2,if_neg h5]
theorem rH {r:Int} {a b c:AL} (G:LG a) (D:LG b) (J:LG c):F1 r (F1 r a b) c=F1 r a (F1 r b c):=by
 by_cases h:r=1∨r=3∨r=4
 · have e:∀ a b,F1 r a b=dW a b:=fun a b=>by unfold F1 dW; rw [if_pos h]
   simp only [e]; exact rG a b c
 · by_cases h2:r=2
   · have e:∀ a b,F1 r a b=if a=⟨0,0⟩∧b=⟨0,0⟩ then ⟨0,0⟩ else ⟨0,1⟩:=fun a b=>by unfold F1; rw [if_neg h,if_pos h2]
     have n1:(⟨0,1⟩:AL)≠⟨0,0⟩:=by decide
     simp only [e]
     by_cases e1:a=⟨0,0⟩ <;> by_cases e2:b=⟨0,0⟩ <;> by_cases e3:c=⟨0,0⟩ <;> simp [e1,e2,e3]
   · by_cases h5:r=5
     · subst h5
       rw [ZS G,ZS D,ZS J,LH,LH,LH,LH,Int.add_assoc]
     · unfold F1
       simp only [if_neg h,if_neg h2,if_neg h5]
def yI (o:Option AL):Prop:=∀ w,o=some w→LG w
theorem oN {r:Int} {a b:Option AL} (D:yI a) (h:yI b):dU r a b=dU r b a:=by
 cases a with
 | none=>cases b <;> rfl
 | some x=>cases b with
  | none=>rfl
  | some y=>simp only [dU]; rw [vG (D x rfl) (h y rfl)]
theorem M3 {r:Int} {a b c:Option AL} (D:yI a) (h:yI b) (G:yI c):dU r (dU r a b) c=dU r a (dU r b c):=by
 cases a with
 | none=>cases b <;> rfl
 | some x=>cases b with
  | none=>cases c <;> rfl
  | some y=>cases c with
   | none=>rfl
   | some z=>simp only [dU]; rw [rH (D x rfl) (h y rfl) (G z rfl)]
theorem jB (r:Int) (n:Nat) (A B:Int→Option Int):YL r (n+1) A B=fL r A B (YL r n A B) n:=by
 unfold YL; rw [List.range_succ,List.foldl_append]; rfl
theorem oO (r:Int) (k:Nat) (A B:Int→Option Int):∀ m:Nat,YL r (k+m) A B=dU r (YL r k A B) (YL r m (fun j=>A (j+k)) (fun j=>B (j+k)))
 | 0=>by rw [Nat.add_zero,show YL r 0 (fun j=>A (j+k)) (fun j=>B (j+k))=none from rfl,KW]
 | m+1=>by
  rw [←Nat.add_assoc,jB,jB,oO r k A B m]
  have ho:=oL r m (fun j=>A (j+k)) (fun j=>B (j+k))
  generalize YL r m (fun j=>A (j+k)) (fun j=>B (j+k))=o at ho ⊢
  unfold fL
  rw [show (((k+m:Nat):Int))=(m:Int)+k by omega]
  simp only
  cases hA:A ((m:Int)+k) with
  | none=>rfl
  | some a=>cases hB:B ((m:Int)+k) with
   | none=>rfl
   | some x=>
    have h:yI (some (YK r a x)):=fun w D=>by
     have:=Option.some.inj D
     subst this; exact MO _ _ _
    exact M3 (oL r k A B) ho h
theorem YM {r:Int} {n:Nat} {A h B D:Int→Option Int} (J:∀ j:Nat,j<n→A j=h j) (G:∀ j:Nat,j<n→B j=D j):YL r n A B=YL r n h D:=by
 unfold YL
 refine U0 fun acc k hk=>?_
 have hk:=List.mem_range.1 hk
 unfold fL
 rw [J k hk,G k hk]
theorem AaY {l:List CO} (h:IncI l) {i a:Int}:XA l i=some a↔(⟨i,a⟩:CO)∈l:=⟨lJ,fun D=>tJ h D⟩
theorem AaZ {x y:Option Int} (h:∀ a,x=some a↔y=some a):x=y:=by
 cases x with
 | none=>cases y with
  | none=>rfl
  | some b=>have:=(h b).2 rfl; cases this
 | some a=>exact ((h a).1 rfl).symm
end Go.Proofs.YtbohadngdkjljaaGreat
