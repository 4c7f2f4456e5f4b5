import Derived.Test.YtbohadngdkjljaaGreatPushB
namespace Go.Proofs.YtbohadngdkjljaaGreat
open Go Go.Fw
set_option linter.unusedVariables false
set_option linter.unusedSimpArgs false
def NC (z:Int):AL:=⟨A7 (z / 18446744073709551616),z % 18446744073709551616⟩
theorem JB (z:Int):LI (NC z):=by unfold LI NC; simp only [G6]; omega
theorem LJ (x y:Int):F6 5 (NC x) (NC y)=NC (x+y):=by
 have e:F6 5 (NC x) (NC y)=⟨A7 ((NC x).Hi+(NC y).Hi+(if 18446744073709551616≤(NC x).Lo+(NC y).Lo then 1 else 0)),((NC x).Lo+(NC y).Lo) % 18446744073709551616⟩:=rfl
 rw [e]
 unfold NC
 apply KU
 · simp only [G6]; split <;> omega
 · simp only; omega
theorem IF {v:Int} (h:GN v):YS v=NC v:=by
 unfold YS NC GN at *
 apply KU
 · simp only [G6]; split <;> omega
 · rfl
theorem tK {hi lo:Int} (h0:0≤lo) (h1:lo<18446744073709551616):(⟨A7 hi,lo⟩:AL)=NC (hi*18446744073709551616+lo):=by
 unfold NC
 apply KU
 · simp only [G6]; omega
 · simp only; omega
theorem AdO {x:Int} (k:Nat) (hk:k≤64):shr .u64 x k=x / 2 ^ k:=by
 unfold shr
 rw [Int.fdiv_eq_ediv_of_nonneg _ (Int.le_of_lt (Int.pow_pos (by omega)))]
 have:min (Int.toNat (k:Int)) (IntKind.bits .u64)=k:=by simp [IntKind.bits]; omega
 rw [this]
theorem Ac7 {x:Int} (k:Nat) (hk:k≤64):shl .u64 x k=(x*2 ^ k) % 18446744073709551616:=by
 unfold shl
 rw [NR]
 have:min (Int.toNat (k:Int)) (IntKind.bits .u64)=k:=by simp [IntKind.bits]; omega
 rw [this]
theorem bK (x:Int) (h:0≤x) (D:x<18446744073709551616):(BitVec.ofInt 64 x).toNat=x.toNat:=by
 rw [BitVec.toNat_ofInt]
 congr 1
 exact Int.emod_eq_of_lt h (by simpa using D)
theorem Ab0 {x y:Int} (D:0≤x) (h:x<18446744073709551616) (G:0≤y) (J:y<18446744073709551616):bor .u64 x y=((x.toNat ||| y.toNat:Nat):Int):=by
 unfold bor
 have e:(BitVec.ofInt (IntKind.bits .u64) x ||| BitVec.ofInt (IntKind.bits .u64) y).toNat=x.toNat ||| y.toNat:=by
  show (BitVec.ofInt 64 x ||| BitVec.ofInt 64 y).toNat=_
  rw [BitVec.toNat_or,bK x D h,bK y G J]
 rw [e,NR]
 have:x.toNat ||| y.toNat<2 ^ 64:=Nat.or_lt_two_pow (by omega) (by omega)
 omega
theorem rB {h l:Int} (J:0≤h) (G:h<4294967296) (D:0≤l) (O:l<4294967296):bor .u64 (h*4294967296) l=h*4294967296+l:=by
 rw [Ab0 (by omega) (by omega) D (by omega)]
 have e:(h*4294967296).toNat=h.toNat <<< 32:=by rw [Nat.shiftLeft_eq]; omega
 rw [e,←Nat.shiftLeft_add_eq_or_of_lt (by omega),Nat.shiftLeft_eq]
 omega
theorem yA {x:Int} (h:0≤x) (D:x<18446744073709551616):YU .u64 18446744073709551615 x=18446744073709551615 - x:=by
 unfold YU
 have e:(BitVec.ofInt (IntKind.bits .u64) 18446744073709551615 ^^^ BitVec.ofInt (IntKind.bits .u64) x).toNat=2 ^ 64 - 1 - x.toNat:=by
  show (BitVec.allOnes 64 ^^^ BitVec.ofInt 64 x).toNat=_
  rw [BitVec.allOnes_xor,BitVec.toNat_not,bK x h D]
 rw [e,NR]
 omega
theorem yB {x:Int} (h:GN x):YU .i64 (-1) x = -1 - x:=by
 unfold YU
 have e:(BitVec.ofInt (IntKind.bits .i64) (-1) ^^^ BitVec.ofInt (IntKind.bits .i64) x).toNat=2 ^ 64 - 1 - (x % 18446744073709551616).toNat:=by
  show (BitVec.ofInt 64 (-1) ^^^ BitVec.ofInt 64 x).toNat=_
  rw [show BitVec.ofInt 64 (-1)=BitVec.allOnes 64 by decide,BitVec.allOnes_xor,BitVec.toNat_not,BitVec.toNat_ofInt]
  rfl
 rw [e]
 show A7 _=_
 rw [G6]
 unfold GN at h
 omega
theorem PV {x:Int} {Q:Int×Int→Prop} (h0:0≤x) (h1:x<18446744073709551616) (hQ:Q (x % 4294967296,x / 4294967296)):GH x Q:=by
 unfold GH
 have D:shl .u64 x 32=(x*4294967296) % 18446744073709551616:=Ac7 32 (by omega)
 have h:∀ y,shr .u64 y 32=y / 4294967296:=fun y=>AdO 32 (by omega)
 rw [D,h,h]
 rwa [show x*4294967296 % 18446744073709551616 / 4294967296=x % 4294967296 by omega]
theorem rC {a b:Int} {Q:AL→Prop} (ha0:0≤a) (ha1:a<18446744073709551616) (hb0:0≤b) (hb1:b<18446744073709551616) (hQ:Q (NC (a*b))):PA a b Q:=by
 unfold PA
 have U:∀ x y:Int,0≤x→x<4294967296→0≤y→y<4294967296→0≤x*y∧x*y≤18446744065119617025:=by
  intro x y h1 h2 h3 h4
  refine ⟨Int.mul_nonneg h1 h3,?_⟩
  have:=Int.mul_le_mul (show x≤4294967295 by omega) (show y≤4294967295 by omega) h3 (by omega)
  omega
 refine PV ha0 ha1 (PV hb0 hb1 ?_)
 simp only
 obtain ⟨J,hx0⟩:∃ J,J=a % 4294967296:=⟨_,rfl⟩
 obtain ⟨D,Z⟩:∃ D,D=a / 4294967296:=⟨_,rfl⟩
 obtain ⟨G,hy0⟩:∃ G,G=b % 4294967296:=⟨_,rfl⟩
 obtain ⟨h,hy1⟩:∃ h,h=b / 4294967296:=⟨_,rfl⟩
 rw [←hx0,←Z,←hy0,←hy1]
 have hab:a*b=D*h*18446744073709551616+(D*G+J*h)*4294967296+J*G:=by
  have e1:a=D*4294967296+J:=by omega
  have e2:b=h*4294967296+G:=by omega
  rw [e1,e2,Int.add_mul,Int.mul_add,Int.mul_add]
  have q1:D*4294967296*(h*4294967296)=D*h*18446744073709551616:=by rw [Int.mul_assoc,Int.mul_left_comm 4294967296 h,←Int.mul_assoc D]; rfl
  have q2:D*4294967296*G=D*G*4294967296:=Int.mul_right_comm _ _ _
  have q3:J*(h*4294967296)=J*h*4294967296:=(Int.mul_assoc _ _ _).symm
  rw [q1,q2,q3]; omega
 obtain ⟨b00,c00⟩:=U J G (by omega) (by omega) (by omega) (by omega)
 obtain ⟨b01,c01⟩:=U J h (by omega) (by omega) (by omega) (by omega)
 obtain ⟨b10,c10⟩:=U D G (by omega) (by omega) (by omega) (by omega)
 obtain ⟨b11,c11⟩:=U D h (by omega) (by omega) (by omega) (by omega)
 generalize J*G=O at *
 generalize J*h=V at *
 generalize D*G=p10 at *
 generalize D*h=Y at *
 simp only [NR]
 refine PV (by omega) (by omega) ?_
 simp only
 refine PV (by omega) (by omega) ?_
 simp only
 refine PV (by omega) (by omega) (PV (by omega) (by omega) ?_)
 simp only
 have e3:∀ y,shl .u64 y 32=(y*4294967296) % 18446744073709551616:=fun y=>Ac7 32 (by omega)
 rw [e3]
 have e4:∀ y:Int,(y % 4294967296*4294967296) % 18446744073709551616=y % 4294967296*4294967296:=fun y=>by omega
 rw [e4,rB (by omega) (by omega) (by omega) (by omega),tK (by omega) (by omega)]
 rw [hab] at hQ
 have W:NC (((((Y % 18446744073709551616+(p10 % 18446744073709551616+O % 18446744073709551616 / 4294967296) % 18446744073709551616 / 4294967296) % 18446744073709551616+(V % 18446744073709551616+(p10 % 18446744073709551616+O % 18446744073709551616 / 4294967296) % 18446744073709551616 % 4294967296) % 18446744073709551616 / 4294967296) % 18446744073709551616)*18446744073709551616+((V % 18446744073709551616+(p10 % 18446744073709551616+O % 18446744073709551616 / 4294967296) % 18446744073709551616 % 4294967296) % 18446744073709551616 % 4294967296*4294967296+O % 18446744073709551616 % 4294967296)))=NC (Y*18446744073709551616+(p10+V)*4294967296+O):=by
  unfold NC
  apply KU
  · simp only [G6]; omega
  · simp only; omega
 rw [W]; exact hQ
theorem ZI {a:AL} (h:LI a):a=NC (a.Hi*18446744073709551616+a.Lo):=by
 unfold LI at h
 rw [←tK (by omega) (by omega)]
 apply KU
 · simp only [G6]; omega
 · rfl
theorem yC {x:Int} {Q:AL→Prop} (D:Q (NC (-x))):Z9 ⟨0,0⟩ (NC x) Q:=by
 unfold Z9 QA
 have key:∀ c:Int,(c=if 0<(NC x).Lo then 1 else 0)→(⟨A7 ((((0 % 18446744073709551616) - ((NC x).Hi % 18446744073709551616)) % 18446744073709551616 - c) % 18446744073709551616),(0 - (NC x).Lo) % 18446744073709551616⟩:AL)=NC (-x):=by
   intro c G
   unfold NC at *
   subst G
   apply KU
   · simp only [G6]; split <;> omega
   · simp only; omega
 simp only [NR]
 refine A0 (fun h=>?_) (fun h=>?_)
 · rw [key 1 (by rw [if_pos h])]; exact D
 · rw [key 0 (by rw [if_neg h])]; exact D
theorem oD {a b:Int} {Q:AL→Prop} (J:GN a) (D:GN b) (U:Q (NC (a*b))):ZA a b Q:=by
 unfold ZA
 unfold GN at J D
 have G:∀ {x:Int} {K:Int→Prop},-9223372036854775808≤x∧x≤9223372036854775807→K (if x<0 then -x else x)→ST x K:=by
   intro x K hx O
   unfold ST
   simp only [NR]
   refine A0 (fun h=>?_) (fun h=>?_)
   · rw [if_pos h] at O; rwa [show (0 - x % 18446744073709551616) % 18446744073709551616 = -x by omega]
   · rw [if_neg h] at O; rwa [show x % 18446744073709551616=x by omega]
 refine G J (G D ?_)
 have V : -a*b = -(a*b):=Int.neg_mul _ _
 have W:a * -b = -(a*b):=Int.mul_neg _ _
 have Y : -a * -b=a*b:=Int.neg_mul_neg _ _
 refine rC (by split <;> omega) (by split <;> omega) (by split <;> omega) (by split <;> omega) ?_
 by_cases h1:a<0 <;> by_cases h2:b<0
 · rw [if_pos h1,if_pos h2,Y]
   exact AC (by simp [h1,h2]) U
 · rw [if_pos h1,if_neg h2,V]
   exact AY (by simp [h1,h2]) (yC (by rwa [Int.neg_neg]))
 · rw [if_neg h1,if_pos h2,W]
   exact AY (by simp [h1,h2]) (yC (by rwa [Int.neg_neg]))
 · rw [if_neg h1,if_neg h2]
   exact AC (by simp [h1,h2]) U
theorem yD {x:Int} {Q:AL→Prop} (h:Q (NC (-x))):RO (NC x) Q:=by
 unfold RO
 have D:=JB x
 unfold LI at D
 have e:(⟨YU .i64 (-1) (NC x).Hi,YU .u64 18446744073709551615 (NC x).Lo⟩:AL)=NC (-x - 1):=by
  rw [yB (by unfold GN; omega),yA (by omega) (by omega)]
  unfold NC
  apply KU
  · simp only [G6]; omega
  · simp only; omega
 have G:(⟨0,1⟩:AL)=NC 1:=by decide
 rw [e,G]
 refine KB (JB _) (JB _) ?_
 rw [LJ,show -x - 1+1 = -x by omega]; exact h
theorem lC {a b:Int} {Q:AL→Prop} (ha:GN a) (hb:GN b) (hQ:Q (NC (a*b))):WM a b Q:=by
 unfold WM
 have V:=hb
 unfold GN at V
 refine F4 ha (CJ (fun t:Int=>t=if b<0 then -b else b) ?_ ?_)
 · rintro t W
   rw [IF ha]
   have G:0≤t∧t≤9223372036854775808:=by subst W; split <;> omega
   refine DE (fun s:Int×Int×Int×Int×Int=>∃ A z,(⟨s.1,s.2.1⟩:AL)=NC A∧(⟨s.2.2.2.1,s.2.2.2.2⟩:AL)=NC z∧0≤s.2.2.1∧s.2.2.1≤9223372036854775808∧z+A*s.2.2.1=a*t) (fun s=>s.2.2.1.toNat) ⟨a,0,rfl,(by decide:(⟨0,0⟩:AL)=NC 0),G.1,G.2,by simp⟩ ?_
   rintro ⟨s1,s2,D,s4,s5⟩ next ⟨A,z,Y,J,O,h1,he⟩ hn
   simp only at Y J O h1 he ⊢
   have e2:IntKind.wrap .u64 (D.tdiv 2)=D / 2:=by rw [NR,Int.tdiv_eq_ediv_of_nonneg O]; omega
   refine A0 (fun hp=>BA (fun Z=>?_) (fun Z=>?_)) (fun hp=>?_)
   · rw [J,Y]
     refine KB (JB _) (JB _) (KB (JB _) (JB _) ?_)
     rw [LJ,LJ,e2]
     rw [Int.tmod_eq_emod_of_nonneg O] at Z
     refine hn _ ⟨A+A,z+A,rfl,rfl,by simp only; omega,by simp only; omega,?_⟩ (by simp only; omega)
     simp only
     obtain ⟨m,U⟩:∃ m,D=2*m+1:=⟨D / 2,by omega⟩
     rw [show D / 2=m by omega,←he,U,Int.add_mul,Int.mul_add,Int.mul_one,Int.mul_left_comm]; omega
   · rw [Y]
     refine KB (JB _) (JB _) ?_
     rw [LJ,e2]
     rw [Int.tmod_eq_emod_of_nonneg O] at Z
     refine hn _ ⟨A+A,z,rfl,J,by simp only; omega,by simp only; omega,?_⟩ (by simp only; omega)
     simp only
     obtain ⟨m,U⟩:∃ m,D=2*m:=⟨D / 2,by omega⟩
     rw [show D / 2=m by omega,←he,U,Int.add_mul,Int.mul_left_comm]; omega
   · have e0:D=0:=by omega
     subst e0
     rw [Int.mul_zero,Int.add_zero] at he
     rw [J,he]
     refine A0 (fun h=>yD ?_) (fun h=>?_)
     · rw [W,if_pos h,Int.mul_neg,Int.neg_neg]; exact hQ
     · rw [W,if_neg h]; exact hQ
 · intro k hk
   simp only [NR]
   refine A0 (fun h=>hk _ ?_) (fun h=>hk _ ?_)
   · rw [if_pos h]; omega
   · rw [if_neg h]; omega
def Y7 (r a x:Int):AL:=
 if r=2 then (if a≠0∧x≠0 then ⟨0,1⟩ else ⟨0,0⟩)
 else if r=5 then NC (a*x)
 else if r=1∨r=3∨r=4 then
  (if 4611686018427387904≤a∨4611686018427387904≤x then NC 4611686018427387904
   else if r=3 then NC a else if r=4 then NC x else if UE (NC 4611686018427387904) (NC (a+x)) then NC 4611686018427387904 else NC (a+x))
 else ⟨0,0⟩
theorem MW (r a x:Int):LI (Y7 r a x):=by
 have D:LI ⟨0,0⟩:=by unfold LI; simp
 have h:LI ⟨0,1⟩:=by unfold LI; simp
 unfold Y7
 repeat' split
 all_goals first | exact JB _ | exact D | exact h
theorem lD {x y:Int} (D : -170141183460469231731687303715884105728≤x∧x<170141183460469231731687303715884105728) (G : -170141183460469231731687303715884105728≤y∧y<170141183460469231731687303715884105728):UE (NC x) (NC y)↔x≤y:=by
 have h:∀ z:Int,-170141183460469231731687303715884105728≤z∧z<170141183460469231731687303715884105728→A7 (z / 18446744073709551616)=z / 18446744073709551616:=by
  intro z hz; rw [G6]; omega
 unfold UE NC
 simp only [h x D,h y G]
 omega
theorem oE {r a x:Int} {Q:AL→Prop} (O:GN a) (W:GN x) (D:Q (Y7 r a x)):ZB r a x Q:=by
 unfold ZB
 unfold Y7 at D
 have V:GN 4611686018427387904:=by unfold GN; omega
 refine BA (fun h=>?_) (fun h=>BA (fun Y=>?_) (fun Y=>?_))
 · rw [if_pos h] at D
   refine CK (fun G=>ZD ?_) (fun G=>ZD ?_)
   · simpa [G] using D
   · simpa [G] using D
 · rw [if_neg h,if_pos Y] at D
   exact oD O W D
 · rw [if_neg h,if_neg Y] at D
   have J:(if x > a then x else a)≥4611686018427387904↔4611686018427387904≤a∨4611686018427387904≤x:=by split <;> omega
   refine CJ (fun _=>¬((1≤r∧r≤5)∧(4611686018427387904≤a∨4611686018427387904≤x))) ?_ ?_
   · rintro _ hno
     refine CJ (fun p:Int×Int=>(⟨p.1,p.2⟩:AL)=NC (if r=1 then a else 0)∧(r=1∨r=4)) ?_ ?_
     · rintro ⟨p1,p2⟩ ⟨hp,U⟩
       simp only at hp ⊢
       refine JX V (JX W ?_)
       rw [hp,IF V,IF W]
       refine cO (JB _) (JB _) (iT ?_)
       rw [LJ]
       rw [if_pos (by omega),if_neg (by omega),if_neg (by omega)] at D
       rcases U with U | U
       · rw [if_pos U]; rwa [if_neg (by omega)] at D
       · rw [if_neg (show ¬r=1 by omega),show (0:Int)+x=x by omega]
         rw [if_pos U] at D
         unfold GN at W
         rwa [if_neg (by rw [lD (by omega) (by omega)]; omega)]
     · intro k hk
       refine BA (fun G=>JX O (hk _ ⟨?_,.inl G⟩)) (fun G=>BA (fun h4=>hk _ ⟨?_,.inr h4⟩) (fun h4=>BA (fun h3=>JX O ?_) (fun h3=>?_)))
       · rw [if_pos G]; exact IF O
       · rw [if_neg G]; decide
       · rw [if_pos (by omega),if_neg (by omega),if_pos h3] at D
         rw [IF O]; exact D
       · rw [if_neg (by omega)] at D; exact D
   · intro k hk
     refine LW ⟨fun G=>A0 (fun h2=>JX V ?_) (fun h2=>hk _ ?_),fun G=>hk _ ?_⟩
     · have G:=of_decide_eq_true G
       rw [if_pos (by omega),if_pos (J.1 h2)] at D
       rw [IF V]; exact D
     · exact fun Z=>h2 (J.2 Z.2)
     · exact fun Z=>of_decide_eq_false G Z.1
theorem rD {a b:AL} {Q:Int→Prop} (G:¬UE b a→Q (-1)) (J:a=b→Q 0) (V:¬UE a b→Q 1):GW a b Q:=by
 unfold GW
 refine CJ (fun _=>UE b a) (fun _ O=>BA J (fun e=>V fun D=>e ?_)) fun k hk=>?_
 · unfold UE at O D; exact KU (by omega) (by omega)
 · refine A0 (fun h=>G ?_) (fun h=>BA (fun e=>A0 (fun U=>G ?_) (fun U=>hk () ?_)) (fun e=>hk () ?_))
   all_goals (unfold UE; omega)
theorem lE {r a x:Int} {Q:AL→Prop} (J:GN a) (O:GN x) (D:Q (Y7 r a x)):WN r a x Q:=by
 unfold WN
 unfold Y7 at D
 have G:GN 4611686018427387904:=by unfold GN; omega
 refine CJ (fun b:Bool=>b=decide (4611686018427387904≤a∨4611686018427387904≤x)) ?_ ?_
 · rintro b rfl
   refine BA (fun U=>?_) (fun U=>BA (fun h3=>?_) (fun h3=>BA (fun h4=>?_) (fun h4=>BA (fun V=>?_) (fun V=>BA (fun W=>?_) (fun W=>?_)))))
   · rw [if_neg (by omega),if_neg (by omega),if_pos (by omega)] at D
     refine F4 J (F4 O ?_)
     rw [IF J,IF O]
     refine KB (JB _) (JB _) ?_
     rw [LJ]
     refine A0 (fun h=>F4 G ?_) (fun h=>F4 G ?_)
     · rw [if_pos h] at D; rw [IF G]; exact D
     · rw [if_neg h,if_neg (by omega),if_neg (by omega)] at D
       rw [IF G]
       unfold GN at J O
       have hb:UE (NC 4611686018427387904) (NC (a+x))↔4611686018427387904≤a+x:=lD (by omega) (by omega)
       have hc:UE (NC (a+x)) (NC 4611686018427387904)↔a+x≤4611686018427387904:=lD (by omega) (by omega)
       refine rD (fun Z=>A0 (fun h'=>by omega) (fun _=>?_)) (fun he=>A0 (fun h'=>by omega) (fun _=>?_)) (fun Y=>A0 (fun _=>F4 G ?_) (fun h'=>by omega))
       · rwa [if_neg Z] at D
       · rw [if_pos (by rw [he]; unfold UE; omega)] at D; rwa [he]
       · rw [if_pos (by rw [hb]; rw [hc] at Y; omega)] at D; rw [IF G]; exact D
   · rw [if_neg (by omega),if_neg (by omega),if_pos (by omega)] at D
     refine A0 (fun h=>F4 G ?_) (fun h=>F4 J ?_)
     · rw [if_pos h] at D; rw [IF G]; exact D
     · rw [if_neg h,if_pos h3] at D; rw [IF J]; exact D
   · rw [if_neg (by omega),if_neg (by omega),if_pos (by omega)] at D
     refine A0 (fun h=>F4 G ?_) (fun h=>F4 O ?_)
     · rw [if_pos h] at D; rw [IF G]; exact D
     · rw [if_neg h,if_neg (by omega),if_pos h4] at D; rw [IF O]; exact D
   · rw [if_pos V] at D
     refine CK (fun U=>MU ?_) (fun U=>MU ?_)
     · simpa [U] using D
     · simpa [U] using D
   · rw [if_neg V,if_pos W] at D
     exact lC J O D
   · rw [if_neg V,if_neg W,if_neg (by omega)] at D; exact D
 · intro k hk
   refine A0 (fun h=>hk _ ?_) (fun h=>hk _ ?_)
   · simp [h]
   · simp [h]
def IncI (l:List CN):Prop:=l.Pairwise fun a b=>a.At<b.At
instance (l:List CN):Decidable (IncI l):=by unfold IncI; infer_instance
structure AeO (v:Vec):Prop where
 n0:0≤v.N
 n1:v.N≤4096
 inc:IncI v.Items
 ins:∀ x∈v.Items,0≤x.At∧x.At<v.N
instance (v:Vec):Decidable (AeO v):=decidable_of_iff (0≤v.N∧v.N≤4096∧IncI v.Items∧∀ x∈v.Items,0≤x.At∧x.At<v.N) ⟨fun ⟨a,b,c,d⟩=>⟨a,b,c,d⟩,fun ⟨a,b,c,d⟩=>⟨a,b,c,d⟩⟩
theorem IncI.at {l:List CN} (h:IncI l) {i j:Nat} (G:j<l.length) (D:i<j):(l[i]'(by omega)).At<l[j].At:=by
 unfold IncI at h; rw [List.pairwise_iff_getElem] at h; exact h i j (by omega) G D
theorem yE {α β:Type} {xs:List α} {f:α→β} {h:List β×Int→(List β×Int→Prop)→Prop} (hl:xs.length≤1000000000)
   (J:∀ (i:Nat) (s:List β) (next:List β×Int→Prop) (hi:i<xs.length),s.length=i→(next (s++[f xs[i]],A7 ((i:Int)+1)))→h (s,(i:Int)) next)
   (he:∀ (next:List β×Int→Prop) s,s=xs.map f→h (s,(xs.length:Int)) next):B1 h ([],0):=by
 refine B2 (fun (s:List β) i=>(s,i)) 0 xs.length (by omega) (fun k s=>s=(xs.take k).map f) (by omega) (by simp) (fun k s next _ hk D G=>?_) (fun s next D=>?_)
 · refine J k s next hk (by subst D; simp; omega) (G _ ?_)
   subst D
   rw [List.take_succ_eq_append_getElem hk,List.map_append]; rfl
 · rw [List.take_length] at D
   exact he next s D
def kvI (x:CN):Int×Int:=(x.At,x.Val)
def WZ (l:List CN) (i:Int):Option Int:=BK i (l.map kvI)
theorem KX (s:CN) (l:List CN) (i:Int):WZ (s :: l) i=if i=s.At then some s.Val else WZ l i:=rfl
theorem ZJ:∀ {l:List CN} {i:Int},(∀ s∈l,s.At≠i)→WZ l i=none
 | [],_,_=>rfl
 | s :: l,i,h=>by rw [KX,if_neg (fun e=>h s (by simp) e.symm)]; exact ZJ fun x D=>h x (by simp [D])
theorem lF:∀ {l:List CN} {i:Int} {v:Int},WZ l i=some v→⟨i,v⟩∈l
 | s :: l,i,v,h=>by
  rw [KX] at h
  split at h
  · rename_i e; cases h; subst e; simp
  · exact List.mem_cons_of_mem _ (lF h)
theorem tL:∀ {l:List CN} (h:IncI l) {s:CN},s∈l→WZ l s.At=some s.Val
 | x :: l,h,s,hs=>by
  unfold IncI at h
  rw [List.pairwise_cons] at h
  rw [KX]
  rcases List.mem_cons.1 hs with e | hs
  · subst e; rw [if_pos rfl]
  · have:=h.1 s hs
    rw [if_neg (by omega)]; exact tL h.2 hs
theorem QM:∀ (l:List CN) (m:List CN) (i:Int),WZ (l++m) i=match WZ l i with | some v=>some v | none=>WZ m i
 | [],m,i=>rfl
 | s :: l,m,i=>by
  rw [List.cons_append,KX,KX]
  split
  · rfl
  · exact QM l m i
def AdP (o:Option Int):Int×Bool:=match o with | some v=>(v,true) | none=>(0,false)
def fB (r:Int) (A B:Int→Option Int) (acc:Option AL) (k:Int):Option AL:=match A k,B k with | some a,some x=>dJ r acc (some (Y7 r a x)) | _,_=>acc
def Y8 (r:Int) (n:Nat) (A B:Int→Option Int):Option AL:=(List.range n).foldl (fun acc (k:Nat)=>fB r A B acc k) none
theorem uY {r:Int} {A B:Int→Option Int} {acc:Option AL} (h:∀ w,acc=some w→LI w) (k:Int):∀ w,fB r A B acc k=some w→LI w:=by
 intro w D
 unfold fB at D
 split at D
 · cases acc with
   | none=>cases D; exact MW _ _ _
   | some b=>cases D; exact QK (h b rfl) (MW _ _ _)
 · exact h w D
theorem oF (r:Int) (n:Nat) (A B:Int→Option Int):∀ w,Y8 r n A B=some w→LI w:=by
 unfold Y8
 induction n with
 | zero=>intro w D; cases D
 | succ n h=>rw [List.range_succ,List.foldl_append]; exact uY h n
theorem TR {β γ:Type} {f g:β→γ→β}:∀ {l:List γ} {a:β},(∀ acc k,k∈l→f acc k=g acc k)→l.foldl f a=l.foldl g a
 | [],_,_=>rfl
 | x :: l,a,h=>by rw [List.foldl_cons,List.foldl_cons,h a x (by simp)]; exact TR fun acc k hk=>h acc k (by simp [hk])
theorem ZK {β:Type} {step:β→Int→Int→β} {a:β}:∀ {n:Nat} {l:List CN},IncI l→(∀ x∈l,0≤x.At∧x.At<n) →
  l.foldl (fun acc x=>step acc x.At x.Val) a=(List.range n).foldl (fun acc (k:Nat)=>match WZ l k with | some v=>step acc k v | none=>acc) a
 | 0,l,h,hi=>by
  cases l with
  | nil=>rfl
  | cons x l=>have:=hi x (by simp); omega
 | n+1,l,h,hi=>by
  rw [List.range_succ,List.foldl_append]
  simp only [List.foldl_cons,List.foldl_nil]
  have U:l=[]∨∃ p y,l=p++[y]:=by
    rcases List.eq_nil_or_concat l with h | ⟨p,y,h⟩
    · exact .inl h
    · exact .inr ⟨p,y,by rw [h,List.concat_eq_append]⟩
  have old:∀ {l:List CN},IncI l→(∀ x∈l,0≤x.At∧x.At<n)→WZ l n=none:=fun _ hi=>ZJ fun s V=>by have:=hi s V; omega
  rcases U with e | ⟨p,y,e⟩
  · subst e
    rw [←ZK (n:=n) (l:=[]) h (by simp)]; rfl
  · subst e
    have hp:IncI p:=(List.pairwise_append.1 h).1
    have O:∀ x∈p,x.At<y.At:=fun x D=>(List.pairwise_append.1 h).2.2 x D y (by simp)
    by_cases ey:y.At=n
    · have G:∀ x∈p,0≤x.At∧x.At<n:=fun x D=>⟨(hi x (by simp [D])).1,by have:=O x D; omega⟩
      have Y:WZ (p++[y]) n=some y.Val:=by rw [QM,old hp G,KX,if_pos ey.symm]
      rw [Y,List.foldl_append,ZK hp G]
      simp only [List.foldl_cons,List.foldl_nil,ey]
      congr 1
      refine TR fun acc k hk=>?_
      have hk:=List.mem_range.1 hk
      have:WZ (p++[y]) k=WZ p k:=by rw [QM,KX,if_neg (by omega)]; cases WZ p k <;> rfl
      rw [this]
    · have J:∀ x∈p++[y],0≤x.At∧x.At<n:=by
       intro x D
       have W:=hi x D
       refine ⟨W.1,?_⟩
       have hy:=hi y (by simp)
       rcases List.mem_append.1 D with D | D
       · have:=O x D; omega
       · simp only [List.mem_singleton] at D; subst D; omega
      rw [old h J,ZK h J]
def M7 (r:Int) (B:Int→Option Int) (acc:Option AL) (y:CN):Option AL:=match B y.At with | some x=>dJ r acc (some (Y7 r y.Val x)) | none=>acc
theorem uZ {r:Int} {B:Int→Option Int} {acc:Option AL} (h:∀ w,acc=some w→LI w) (y:CN):∀ w,M7 r B acc y=some w→LI w:=by
 intro w D
 unfold M7 at D
 split at D
 · cases acc with
   | none=>cases D; exact MW _ _ _
   | some b=>cases D; exact QK (h b rfl) (MW _ _ _)
 · exact h w D
theorem bL (r:Int) (B:Int→Option Int):∀ (l:List CN) (acc:Option AL),(∀ w,acc=some w→LI w)→∀ w,l.foldl (M7 r B) acc=some w→LI w
 | [],acc,h=>h
 | y :: l,acc,h=>bL r B l _ (uZ h y)
theorem yF {r:Int} {B:Int→Option Int} {n:Nat} {l:List CN} (h:IncI l) (hi:∀ x∈l,0≤x.At∧x.At<n):l.foldl (M7 r B) none=Y8 r n (WZ l) B:=by
 have:=ZK (step:=fun acc k a=>match B k with | some x=>dJ r acc (some (Y7 r a x)) | none=>acc) (a:=none) h hi
 refine this.trans (TR fun acc k _=>?_)
 unfold fB
 cases WZ l (k:Int) <;> cases B (k:Int) <;> rfl
def dK (h:List A3) (i:Int):List CN:=(JY h i.toNat).map PU
def zS (r:Int):Int:=if r=1∨r=3∨r=4 then 4611686018427387904 else 0
theorem lG {r:Int} {Q:Int→Prop} (D:Q (zS r)):SU r Q:=by
 unfold SU; unfold zS at D
 refine BA (fun h=>?_) (fun h=>BA (fun G=>?_) (fun G=>BA (fun J=>?_) (fun J=>?_)))
 · rwa [if_pos (.inl h)] at D
 · rwa [if_pos (.inr (.inl G))] at D
 · rwa [if_pos (.inr (.inr J))] at D
 · rwa [if_neg (by omega)] at D
theorem gT {r:Int} {Q:Int→Prop} (D:Q (zS r)):TG r Q:=by
 unfold TG V3; unfold zS at D
 have G:(r=1∨r=3∨r=4)→AD true (Q 4611686018427387904) (Q 0):=fun h=>AY rfl (by rwa [if_pos h] at D)
 refine BA (fun h=>G (.inl h)) (fun h=>BA (fun J=>G (.inr (.inl J))) (fun J=>BA (fun O=>?_) (fun O=>?_)))
 · rwa [if_pos (.inr (.inr O))] at D
 · rwa [if_neg (by omega)] at D
def JC (x:Int):Int:=x % 40
theorem tM {x:Int} {Q:Int→Prop} (h:UC .u8 x) (D:Q (JC x)):QF x Q:=by
 unfold QF
 have hb:=bounds_u8 h
 rw [AJ (by omega) (by omega),Int.tmod_eq_emod_of_nonneg (by omega)]
 exact D
theorem tN (x:Int):0≤JC x∧JC x≤39:=by unfold JC; omega
theorem Ab1 {a0:Int×Int} {Y:List A3} {Q:Rows→Prop} (h0:UC .u8 a0.1∧UC .u8 a0.2) (hv:∀ t∈Y,KT t)
   (Z:∀ T,Canon (JC a0.1) (JC a0.2) T→(∀ t∈T,GN t.Val)→Q (B0 (JC a0.1) (JC a0.2) T)):TE a0 Y Q:=by
 unfold TE
 have r0:=tN a0.1; have c0:=tN a0.2
 refine tM h0.1 (tM h0.2 (AcS fun ys hl hm=>?_))
 refine B2 (fun (s:List A3) i=>(s,i)) 0 ys.length (by omega) (fun i s=>s.length≤i∧∀ t∈s,GN t.Val) (by omega) (s0:=[]) ⟨by simp,by simp⟩ (fun i s next _ hi O W=>?_) (fun s next O=>?_)
 · obtain ⟨V,J⟩:=O
   dsimp only
   refine A0 (fun _=>?_) (fun h=>by omega)
   have D:next (s,A7 ((i:Int)+1)):=W s ⟨by omega,J⟩
   refine AK hi (A0 (fun _=>D) (fun _=>A0 (fun _=>D) (fun _=>BA (fun _=>D) (fun g1=>BA (fun _=>D) (fun g2=>⟨g1,g2,?_⟩)))))
   have hx:GN ys[i].Val:=AaX (hv _ (hm _ (List.getElem_mem hi))).2.2
   refine AR (by simp only [List.length_singleton]; omega) (W _ ⟨by simp; omega,fun t G=>?_⟩)
   rcases List.mem_append.1 G with G | G
   · exact J t G
   · simp at G; subst G; exact hx
 · obtain ⟨V,J⟩:=O
   dsimp only
   refine A0 (fun h=>by omega) (fun _=>?_)
   refine PT (by omega) J ?_
   rcases oC (r:=1) (rows:=JC a0.1) (cols:=JC a0.2) J with ⟨h1,h2⟩ | ⟨T,hT,he,_,_,_,_,U,_⟩
   · refine AY (by simpa using h2) ?_
     unfold DF
     have e:A7 (JC a0.1+1)=JC a0.1+1:=AJ (by omega) (by omega)
     rw [e]
     refine ⟨by omega,by omega,?_⟩
     have:=Z [] ⟨r0.1,by omega,c0.1,by omega,by simp,.nil,by simp⟩ (by simp)
     unfold B0 at this
     have e2:(JC a0.1+1).toNat=(JC a0.1).toNat+1:=by omega
     rw [e2,bH]
     exact this
   · rw [he]
     refine AC (by simp) (Z T hT fun t G=>?_)
     rw [U] at G
     unfold ON at G
     split at G
     · obtain ⟨p,_,rfl⟩:=List.mem_map.1 G
       exact AaY p.2
     · simp at G
def yG (r x:Int):Int:=if r=5 then x else if r=2 then mX .i64 x 1 else if (mX .i64 x 4611686018427387903).tmod 5=0 then 4611686018427387904 else mX .i64 x 4611686018427387903
def vC (r x:Int):Int:=if r=5 then x.tmod 2147483648 else yG r x
theorem tO (x y:Int):GN (mX .i64 x y):=by
 unfold mX GN
 show -9223372036854775808≤A7 _∧A7 _≤9223372036854775807
 rw [G6]; omega
theorem yH {r x:Int} (h:GN x):GN (yG r x):=by
 unfold yG
 repeat' split
 · exact h
 · exact tO _ _
 · unfold GN; omega
 · exact tO _ _
theorem yI {r x:Int} (h:GN x):GN (vC r x):=by
 unfold vC
 split
 · unfold GN at *
   rcases Int.lt_or_le x 0 with D | D
   · have:=Int.neg_tmod (a:=-x) (b:=2147483648)
     rw [Int.neg_neg] at this
     rw [this,Int.tmod_eq_emod_of_nonneg (by omega)]; omega
   · rw [Int.tmod_eq_emod_of_nonneg D]; omega
 · exact yH h
theorem yJ {r x:Int} {Q:Int→Prop} (D:Q (yG r x)):RK r x Q:=by
 unfold RK; unfold yG at D
 refine BA (fun h=>?_) (fun h=>BA (fun G=>?_) (fun G=>BA (fun J=>?_) (fun J=>?_)))
 · rwa [if_pos h] at D
 · rwa [if_neg h,if_pos G] at D
 · rwa [if_neg h,if_neg G,if_pos J] at D
 · rwa [if_neg h,if_neg G,if_neg J] at D
theorem vD {r x:Int} {Q:Int→Prop} (D:Q (vC r x)):PC r x Q:=by
 unfold PC; unfold vC at D
 refine BA (fun h=>?_) (fun h=>yJ ?_)
 · rwa [if_pos h] at D
 · rwa [if_neg h] at D
def cP (r:Int):Int:=if r<1∨5<r then 1 else r
theorem Ab2 (r:Int):1≤cP r∧cP r≤5:=by unfold cP; split <;> omega
theorem oG {r:Int} {Q:Int→Prop} (D:Q (cP r)):OH r Q:=by
 unfold OH; unfold cP at D
 refine A0 (fun h=>?_) (fun h=>A0 (fun G=>?_) (fun G=>?_))
 · rwa [if_pos (.inl h)] at D
 · rwa [if_pos (.inr G)] at D
 · rwa [if_neg (by omega)] at D
def Ab3 (g:Int→Int) (t:A3):A3:=⟨t.Row,t.Col,g t.Val⟩
theorem rE {rows cols:Int} {T:List A3} (h:Canon rows cols T) (g:Int→Int):Canon rows cols (T.map (Ab3 g)) where
 r0:=h.r0
 r1:=h.r1
 c0:=h.c0
 c1:=h.c1
 len:=by rw [List.length_map]; exact h.len
 srt:=by unfold Srt; rw [List.pairwise_map]; exact h.srt
 inn:=by
  intro t ht
  obtain ⟨x,hx,rfl⟩:=List.mem_map.1 ht
  exact h.inn x hx
theorem rF (rows cols:Int) (T:List A3) (g:Int→Int):B0 rows cols (T.map (Ab3 g)) = { B0 rows cols T with Val:=T.map fun t=>g t.Val }:=by
 unfold B0
 have e:E6 (T.map (Ab3 g))=E6 T:=by
  funext j
  unfold E6
  rw [List.countP_map]; rfl
 rw [e,List.map_map,List.map_map]; rfl
theorem bM {a:EO} {Q:Rows→Prop} (h1:UC .u8 a.Size.1∧UC .u8 a.Size.2) (W:∀ t∈a.L,KT t) (Z:∀ T,Canon (JC a.Size.1) (JC a.Size.2) T→(∀ t∈T,GN t.Val)→Q (B0 (JC a.Size.1) (JC a.Size.2) T)):F8 a Q:=by
 unfold F8
 refine Ab1 h1 W fun T J V=>oG ?_
 have O:=J.len
 have D:(B0 (JC a.Size.1) (JC a.Size.2) T).Val=T.map (·.Val):=rfl
 refine yE (xs:=(B0 (JC a.Size.1) (JC a.Size.2) T).Val) (f:=vC (cP a.Ring)) (by rw [D,List.length_map]; omega) (fun i s next hi G U=>?_) (fun next s G=>?_)
 · have Y:i<T.length:=by rw [D,List.length_map] at hi; exact hi
   exact A0 (fun _=>AK hi (vD (AR (by simp; omega) U))) (fun h=>by omega)
 · refine A0 (fun h=>by omega) (fun _=>?_)
   have:=Z (T.map (Ab3 (vC (cP a.Ring)))) (rE J _) (fun t ht=>by
    obtain ⟨x,hx,rfl⟩:=List.mem_map.1 ht
    exact yI (V x hx))
   rw [rF] at this
   rw [D,List.map_map] at G
   subst G
   exact this
theorem PW {x:Int} (h:0≤x) (h1:x≤39):UC .u8 x:=by
 have:∀ n:Fin 40,UC .u8 (n.val:Int):=by unfold UC; decide
 have:=this ⟨x.toNat,by omega⟩
 simpa only [Int.toNat_of_nonneg h] using this
theorem vE (a b:AL):UE a b∨UE b a:=by unfold UE; omega
theorem yK {a b:AL} (h:UE a b) (h':UE b a):a=b:=by unfold UE at *; exact KU (by omega) (by omega)
theorem vF {a b c:AL} (h:UE a b) (h':UE b c):UE a c:=by unfold UE at *; omega
def dL (a b:AL):AL:=if UE a b then a else b
theorem vG (a b:AL):dL a b=dL b a:=by
 unfold dL
 by_cases h:UE a b <;> by_cases h':UE b a
 · rw [if_pos h,if_pos h']; exact yK h h'
 · rw [if_pos h,if_neg h']
 · rw [if_neg h,if_pos h']
 · rcases vE a b with e | e
   · exact absurd e h
   · exact absurd e h'
theorem rG (a b c:AL):dL (dL a b) c=dL a (dL b c):=by
 unfold dL
 by_cases h1:UE a b <;> by_cases h2:UE b c <;> by_cases h3:UE a c <;> simp only [h1,h2,h3,if_true,if_false]
 · exact absurd (vF h1 h2) h3
 · exfalso; unfold UE at *; omega
theorem vH {r:Int} {a b:AL} (G:LI a) (D:LI b):F6 r a b=F6 r b a:=by
 by_cases h:r=1∨r=3∨r=4
 · have e:∀ a b,F6 r a b=dL a b:=fun a b=>by unfold F6 dL; rw [if_pos h]
   rw [e,e]; exact vG a b
 · by_cases h2:r=2
   · unfold F6
     rw [if_neg h,if_pos h2,if_neg h,if_pos h2]
     by_cases e1:a=⟨0,0⟩ <;> by_cases e2:b=⟨0,0⟩ <;> simp [e1,e2]
   · by_cases h5:r=5
     · subst h5
       rw [ZI G,ZI D,LJ,LJ,Int.add_comm]
     · unfold F6; rw [if_neg h,if_neg h2,if_neg h5,if_neg h,if_neg h2,if_neg h5]
theorem rH {r:Int} {a b c:AL} (J:LI a) (D:LI b) (G:LI c):F6 r (F6 r a b) c=F6 r a (F6 r b c):=by
 by_cases h:r=1∨r=3∨r=4
 · have e:∀ a b,F6 r a b=dL a b:=fun a b=>by unfold F6 dL; rw [if_pos h]
   simp only [e]; exact rG a b c
 · by_cases h2:r=2
   · have e:∀ a b,F6 r a b=if a=⟨0,0⟩∧b=⟨0,0⟩ then ⟨0,0⟩ else ⟨0,1⟩:=fun a b=>by unfold F6; rw [if_neg h,if_pos h2]
     have n1:(⟨0,1⟩:AL)≠⟨0,0⟩:=by decide
     simp only [e]
     by_cases e1:a=⟨0,0⟩ <;> by_cases e2:b=⟨0,0⟩ <;> by_cases e3:c=⟨0,0⟩ <;> simp [e1,e2,e3]
   · by_cases h5:r=5
     · subst h5
       rw [ZI J,ZI D,ZI G,LJ,LJ,LJ,LJ,Int.add_assoc]
     · unfold F6
       simp only [if_neg h,if_neg h2,if_neg h5]
def yL (o:Option AL):Prop:=∀ w,o=some w→LI w
theorem oH {r:Int} {a b:Option AL} (D:yL a) (h:yL b):dJ r a b=dJ r b a:=by
 cases a with
 | none=>cases b <;> rfl
 | some x=>cases b with
  | none=>rfl
  | some y=>simp only [dJ]; rw [vH (D x rfl) (h y rfl)]
theorem M8 {r:Int} {a b c:Option AL} (G:yL a) (h:yL b) (D:yL c):dJ r (dJ r a b) c=dJ r a (dJ r b c):=by
 cases a with
 | none=>cases b <;> rfl
 | some x=>cases b with
  | none=>cases c <;> rfl
  | some y=>cases c with
   | none=>rfl
   | some z=>simp only [dJ]; rw [rH (G x rfl) (h y rfl) (D z rfl)]
theorem iX (r:Int) (n:Nat) (A B:Int→Option Int):Y8 r (n+1) A B=fB r A B (Y8 r n A B) n:=by
 unfold Y8; rw [List.range_succ,List.foldl_append]; rfl
theorem oI (r:Int) (k:Nat) (A B:Int→Option Int):∀ m:Nat,Y8 r (k+m) A B=dJ r (Y8 r k A B) (Y8 r m (fun j=>A (j+k)) (fun j=>B (j+k)))
 | 0=>by rw [Nat.add_zero,show Y8 r 0 (fun j=>A (j+k)) (fun j=>B (j+k))=none from rfl,KW]
 | m+1=>by
  rw [←Nat.add_assoc,iX,iX,oI r k A B m]
  have ho:=oF r m (fun j=>A (j+k)) (fun j=>B (j+k))
  generalize Y8 r m (fun j=>A (j+k)) (fun j=>B (j+k))=o at ho ⊢
  unfold fB
  rw [show (((k+m:Nat):Int))=(m:Int)+k by omega]
  simp only
  cases hA:A ((m:Int)+k) with
  | none=>rfl
  | some a=>cases hB:B ((m:Int)+k) with
   | none=>rfl
   | some x=>
    have D:yL (some (Y7 r a x)):=fun w h=>by
     have:=Option.some.inj h
     subst this; exact MW _ _ _
    exact M8 (oF r k A B) ho D
theorem Y9 {r:Int} {n:Nat} {A h B D:Int→Option Int} (J:∀ j:Nat,j<n→A j=h j) (G:∀ j:Nat,j<n→B j=D j):Y8 r n A B=Y8 r n h D:=by
 unfold Y8
 refine TR fun acc k hk=>?_
 have hk:=List.mem_range.1 hk
 unfold fB
 rw [J k hk,G k hk]
theorem Ab4 {l:List CN} (h:IncI l) {i a:Int}:WZ l i=some a↔(⟨i,a⟩:CN)∈l:=⟨lF,fun D=>tL h D⟩
theorem Ab5 {x y:Option Int} (h:∀ a,x=some a↔y=some a):x=y:=by
 cases x with
 | none=>cases y with
  | none=>rfl
  | some b=>have:=(h b).2 rfl; cases this
 | some a=>exact ((h a).1 rfl).symm
end Go.Proofs.YtbohadngdkjljaaGreat
