import Derived.Test.YtbohadngdkjljaaGreatCsrK
namespace Go.Proofs.YtbohadngdkjljaaGreat
open Go Go.Fw
set_option linter.unusedVariables false
set_option linter.unusedSimpArgs false
def Ai7 (r:Int) (k:EX) (ts:List (EX×Int)):Option AQ:=ts.foldl (fun o t=>if k=t.1 then some (match o with | some w=>GG r w (QA t.2) | none=>QA t.2) else o) none
theorem vX (r:Int) (k:EX) (ts:List (EX×Int)):BM k (SC r ts)=Ai7 r k ts:=by
  suffices ∀ (ts:List (EX×Int)) (l:List (EX×AQ)),srt l→BM k (ts.foldl (fun l t=>ins r t.1 (QA t.2) l) l)=ts.foldl (fun o t=>if k=t.1 then some (match o with | some w=>GG r w (QA t.2) | none=>QA t.2) else o) (BM k l) from this ts [] .nil
  intro ts
  induction ts with
  | nil=>intro l _; rfl
  | cons t ts ih=>
    intro l h
    simp only [List.foldl_cons]
    rw [ih _ (gV h),oM k h]
    congr 1
    by_cases e:k=t.1
    · subst e; rfl
    · rw [if_neg e,if_neg e]
def sw (p:EX×AQ):EX×AQ:=((p.1.2,p.1.1),p.2)
theorem Ac8 (k:EX):∀ l:List (EX×AQ),BM k (l.map sw)=BM (k.2,k.1) l
  | []=>rfl
  | p :: l=>by
    obtain ⟨⟨a,b⟩,w⟩:=p
    obtain ⟨c,d⟩:=k
    simp only [List.map_cons,BM,sw,Ac8 (c,d) l,Prod.mk.injEq]
    by_cases e:c=b∧d=a
    · rw [if_pos e,if_pos ⟨e.2,e.1⟩]
    · rw [if_neg e,if_neg fun h=>e ⟨h.2,h.1⟩]
theorem AeO {l:List (EX×AQ)} (h:EN l):EN (l.map sw):=by
  unfold EN at *
  rw [List.nodup_iff_pairwise_ne,List.pairwise_map] at h
  rw [List.nodup_iff_pairwise_ne,List.pairwise_map,List.pairwise_map]
  refine List.Pairwise.imp (fun {a b} hab e=>hab ?_) h
  obtain ⟨⟨a1,a2⟩,w⟩:=a
  obtain ⟨⟨b1,b2⟩,v⟩:=b
  simp only [sw,Prod.mk.injEq] at *
  exact ⟨e.2,e.1⟩
theorem yL (es:List AM):((SC 1 (es.map oN)).map sw).Perm (SC 1 (es.map kvF)):=by
  refine dQ (AeO (VO (UY _ _))) (VO (UY _ _)) fun k=>?_
  rw [Ac8,vX,vX]
  unfold Ai7
  rw [List.foldl_map,List.foldl_map]
  congr 1
  funext o e
  obtain ⟨c,d⟩:=k
  simp only [oN,kvF,Prod.mk.injEq]
  by_cases h:d=e.From∧c=e.To
  · rw [if_pos h,if_pos ⟨h.2,h.1⟩]
  · rw [if_neg h,if_neg fun h'=>h ⟨h'.2,h'.1⟩]
theorem oV {v:Int} (h:FS v):KW (QA v)=(v,true):=by
  unfold KW QA
  unfold FS at h
  simp only
  rw [if_pos]
  · rw [IZ]; congr 1; omega
  · split <;> omega
theorem AgP (ts:List (EX×Int)) (hv:∀ t∈ts,FS t.2):∀ p∈SC 1 ts,∃ v,FS v∧p.2=QA v:=by
  suffices ∀ (ts:List (EX×Int)) (l:List (EX×AQ)),(∀ t∈ts,FS t.2)→(∀ p∈l,∃ v,FS v∧p.2=QA v)→∀ p∈ts.foldl (fun l t=>ins 1 t.1 (QA t.2) l) l,∃ v,FS v∧p.2=QA v from this ts [] hv (by simp)
  have hins:∀ (k:EX) (v:Int),FS v→∀ l:List (EX×AQ),(∀ p∈l,∃ v,FS v∧p.2=QA v)→∀ p∈ins 1 k (QA v) l,∃ v,FS v∧p.2=QA v:=by
    intro k v hv l
    induction l with
    | nil=>intro _ p hp; simp [ins] at hp; exact ⟨v,hv,by rw [hp]⟩
    | cons q l ih=>
      intro h p hp
      unfold ins at hp
      split at hp
      · rcases List.mem_cons.1 hp with rfl | hp
        · exact h _ (by simp)
        · exact ih (fun x hx=>h x (by simp [hx])) p hp
      · split at hp
        · rcases List.mem_cons.1 hp with rfl | hp
          · obtain ⟨u,hu,e⟩:=h q (by simp)
            unfold GG
            simp only [true_or,if_true]
            split
            · exact ⟨u,hu,e⟩
            · exact ⟨v,hv,rfl⟩
          · exact h p (by simp [hp])
        · rcases List.mem_cons.1 hp with rfl | hp
          · exact ⟨v,hv,rfl⟩
          · exact h p hp
  intro ts
  induction ts with
  | nil=>intro l _ h; exact h
  | cons t ts ih=>intro l ht h; exact ih _ (fun x hx=>ht x (by simp [hx])) (hins _ _ (ht t (by simp)) l h)
theorem bZ {α:Type} {mk:EX→Int→α} {ts:List (EX×Int)} (hv:∀ t∈ts,FS t.2):NJ (SC 1 ts) mk=((SC 1 ts).map (fun p=>mk p.1 (KW p.2).1),0):=by
  refine bU (m:=[]) (.refl _) fun p hp=>?_
  obtain ⟨v,h1,h2⟩:=AgP ts hv p hp
  rw [h2,oV h1]
theorem Ac9 {r:Int} {k:EX} {v:AQ} {l:List (EX×AQ)} (h:∀ p∈l,TT p.1 k):ins r k v l=l++[(k,v)]:=by
  induction l with
  | nil=>rfl
  | cons p l ih=>unfold ins; rw [if_pos (h p (by simp)),ih fun q hq=>h q (by simp [hq])]; rfl
theorem yM {r:Int} {T:List AD} (h:Srt T):SC r (T.map rU)=T.map fun t=>(key t,QA t.Val):=by
  suffices ∀ i,i≤T.length→SC r ((T.take i).map rU)=(T.take i).map fun t=>(key t,QA t.Val) by
    have:=this T.length (Nat.le_refl _)
    rwa [List.take_length] at this
  intro i
  induction i with
  | zero=>intro _; rfl
  | succ i ih=>
    intro hi
    rw [HU (show i<T.length by omega),HU (show i<T.length by omega),oL,ih (by omega),Ac9]
    · rfl
    · intro p hp
      obtain ⟨t,ht,rfl⟩:=List.mem_map.1 hp
      obtain ⟨j,hj,rfl⟩:=List.getElem_of_mem ht
      simp only [List.length_take] at hj
      rw [List.getElem_take]
      exact List.pairwise_iff_getElem.1 h j i (by omega) (by omega) (by omega)
theorem AcA {v:Int} (h:FS v):KW (QA v)=(v,true):=by
  unfold KW QA
  unfold FS at h
  simp only
  rw [if_pos]
  · rw [IZ]; congr 1; omega
  · split <;> omega
theorem oW {r rows cols:Int} {T:List AD} (h:Canon rows cols T) (hv:∀ t∈T,FS t.Val) (hr:1≤r∧r≤5):ofS r rows cols T=(BO rows cols T,0):=by
  have hf:NJ (SC r (T.map rU)) rV=(T,0):=by
    rw [yM h.srt]
    rw [bU (m:=[]) (.refl _) (fun p hp=>by obtain ⟨t,ht,rfl⟩:=List.mem_map.1 hp; rw [AcA (hv t ht)])]
    congr 1
    rw [List.map_map]
    refine (List.map_congr_left fun t ht=>?_).trans (List.map_id T)
    simp only [Function.comp_apply,AcA (hv t ht)]
    rfl
  have h1:=h.r0; have h2:=h.r1; have h3:=h.c0; have h4:=h.c1; have h5:=h.len
  unfold ofS
  rw [if_neg (fun h=>h hr),if_neg (fun h=>h ⟨h1,h2,h3,h4⟩),if_neg (by omega),if_neg (fun h'=>h' h.inn),hf,if_neg (by simp)]
theorem yN {l h c d:Int} {T:List AD} (t:AD):t∈LH l h c d T↔(⟨t.Row+l,t.Col+c,t.Val⟩:AD)∈T∧(0≤t.Row∧t.Row+l<h)∧0≤t.Col∧t.Col+c<d:=by
  unfold LH
  simp only [List.mem_map,List.mem_filter,decide_eq_true_eq]
  constructor
  · rintro ⟨u,⟨hu,hc⟩,rfl⟩
    simp only
    rw [show u.Row - l+l=u.Row by omega,show u.Col - c+c=u.Col by omega]
    exact ⟨hu,by omega,by omega,by omega⟩
  · rintro ⟨hm,hc⟩
    refine ⟨_,⟨hm,?_⟩,?_⟩
    · simp only; omega
    · cases t; simp only [AD.mk.injEq]; exact ⟨by omega,by omega,trivial⟩
def gX (r:Int):Option AQ→Option AQ→Option AQ
  | none,y=>y
  | some a,none=>some a
  | some a,some b=>some (GG r a b)
theorem NL (r:Int) (a:Option AQ):gX r a none=a:=by cases a <;> rfl
def NX (z:Int):AQ:=⟨AH (z / 18446744073709551616),z % 18446744073709551616⟩
theorem oX (z:Int):PE (NX z):=by unfold PE NX; simp only [IZ]; omega
theorem RA (x y:Int):GG 5 (NX x) (NX y)=NX (x+y):=by
  have e:GG 5 (NX x) (NX y)=⟨AH ((NX x).Hi+(NX y).Hi+(if 18446744073709551616≤(NX x).Lo+(NX y).Lo then 1 else 0)),((NX x).Lo+(NX y).Lo) % 18446744073709551616⟩:=rfl
  rw [e]
  unfold NX
  apply PU
  · simp only [IZ]; split <;> omega
  · simp only; omega
theorem WH {v:Int} (h:FS v):QA v=NX v:=by
  unfold QA NX FS at *
  apply PU
  · simp only [IZ]; split <;> omega
  · rfl
theorem yO {hi lo:Int} (h0:0≤lo) (h1:lo<18446744073709551616):(⟨AH hi,lo⟩:AQ)=NX (hi*18446744073709551616+lo):=by
  unfold NX
  apply PU
  · simp only [IZ]; omega
  · simp only; omega
theorem Ag0 {x:Int} (k:Nat) (hk:k≤64):shr .u64 x k=x / 2 ^ k:=by
  unfold shr
  rw [Int.fdiv_eq_ediv_of_nonneg _ (Int.le_of_lt (Int.pow_pos (by omega)))]
  have:min (Int.toNat (k:Int)) (IntKind.bits .u64)=k:=by simp [IntKind.bits]; omega
  rw [this]
theorem AcB {x:Int} (k:Nat) (hk:k≤64):shl .u64 x k=(x*2 ^ k) % 18446744073709551616:=by
  unfold shl
  rw [WB]
  have:min (Int.toNat (k:Int)) (IntKind.bits .u64)=k:=by simp [IntKind.bits]; omega
  rw [this]
theorem YJ (x:Int) (h0:0≤x) (h1:x<18446744073709551616):(BitVec.ofInt 64 x).toNat=x.toNat:=by
  rw [BitVec.toNat_ofInt]
  congr 1
  exact Int.emod_eq_of_lt h0 (by simpa using h1)
theorem yP {x y:Int} (hx0:0≤x) (hx1:x<18446744073709551616) (hy0:0≤y) (hy1:y<18446744073709551616):bor .u64 x y=((x.toNat ||| y.toNat:Nat):Int):=by
  unfold bor
  have e:(BitVec.ofInt (IntKind.bits .u64) x ||| BitVec.ofInt (IntKind.bits .u64) y).toNat=x.toNat ||| y.toNat:=by
    show (BitVec.ofInt 64 x ||| BitVec.ofInt 64 y).toNat=_
    rw [BitVec.toNat_or,YJ x hx0 hx1,YJ y hy0 hy1]
  rw [e,WB]
  have:x.toNat ||| y.toNat<2 ^ 64:=Nat.or_lt_two_pow (by omega) (by omega)
  omega
theorem oY {x y:Int} (hx0:0≤x) (hx1:x<18446744073709551616) (hy0:0≤y) (hy1:y<18446744073709551616):fY .u64 x y=((x.toNat &&& y.toNat:Nat):Int):=by
  unfold fY
  have e:(BitVec.ofInt (IntKind.bits .u64) x &&& BitVec.ofInt (IntKind.bits .u64) y).toNat=x.toNat &&& y.toNat:=by
    show (BitVec.ofInt 64 x &&& BitVec.ofInt 64 y).toNat=_
    rw [BitVec.toNat_and,YJ x hx0 hx1,YJ y hy0 hy1]
  rw [e,WB]
  have:x.toNat &&& y.toNat<2 ^ 64:=Nat.and_lt_two_pow _ (by omega)
  omega
theorem vY {h l:Int} (hh0:0≤h) (hh1:h<4294967296) (hl0:0≤l) (hl1:l<4294967296):bor .u64 (h*4294967296) l=h*4294967296+l:=by
  rw [yP (by omega) (by omega) hl0 (by omega)]
  have e:(h*4294967296).toNat=h.toNat <<< 32:=by rw [Nat.shiftLeft_eq]; omega
  rw [e,←Nat.shiftLeft_add_eq_or_of_lt (by omega),Nat.shiftLeft_eq]
  omega
theorem RS {x:Int} {Q:Int×Int→Prop} (h0:0≤x) (h1:x<18446744073709551616) (hQ:Q (x % 4294967296,x / 4294967296)):GW x Q:=by
  unfold GW
  have e1:shl .u64 x 32=(x*4294967296) % 18446744073709551616:=AcB 32 (by omega)
  have e2:∀ y,shr .u64 y 32=y / 4294967296:=fun y=>Ag0 32 (by omega)
  rw [e1,e2,e2]
  rwa [show x*4294967296 % 18446744073709551616 / 4294967296=x % 4294967296 by omega]
theorem vZ {a b:Int} {Q:AQ→Prop} (ha0:0≤a) (ha1:a<18446744073709551616) (hb0:0≤b) (hb1:b<18446744073709551616) (hQ:Q (NX (a*b))):QV a b Q:=by
  unfold QV
  have hlt:∀ x y:Int,0≤x→x<4294967296→0≤y→y<4294967296→0≤x*y∧x*y≤18446744065119617025:=by
    intro x y h1 h2 h3 h4
    refine ⟨Int.mul_nonneg h1 h3,?_⟩
    have:=Int.mul_le_mul (show x≤4294967295 by omega) (show y≤4294967295 by omega) h3 (by omega)
    omega
  refine RS ha0 ha1 (RS hb0 hb1 ?_)
  simp only
  obtain ⟨x0,hx0⟩:∃ x0,x0=a % 4294967296:=⟨_,rfl⟩
  obtain ⟨x1,hx1⟩:∃ x1,x1=a / 4294967296:=⟨_,rfl⟩
  obtain ⟨y0,hy0⟩:∃ y0,y0=b % 4294967296:=⟨_,rfl⟩
  obtain ⟨y1,hy1⟩:∃ y1,y1=b / 4294967296:=⟨_,rfl⟩
  rw [←hx0,←hx1,←hy0,←hy1]
  have hab:a*b=x1*y1*18446744073709551616+(x1*y0+x0*y1)*4294967296+x0*y0:=by
    have e1:a=x1*4294967296+x0:=by omega
    have e2:b=y1*4294967296+y0:=by omega
    rw [e1,e2,Int.add_mul,Int.mul_add,Int.mul_add]
    have q1:x1*4294967296*(y1*4294967296)=x1*y1*18446744073709551616:=by rw [Int.mul_assoc,Int.mul_left_comm 4294967296 y1,←Int.mul_assoc x1]; rfl
    have q2:x1*4294967296*y0=x1*y0*4294967296:=Int.mul_right_comm _ _ _
    have q3:x0*(y1*4294967296)=x0*y1*4294967296:=(Int.mul_assoc _ _ _).symm
    rw [q1,q2,q3]; omega
  obtain ⟨b00,c00⟩:=hlt x0 y0 (by omega) (by omega) (by omega) (by omega)
  obtain ⟨b01,c01⟩:=hlt x0 y1 (by omega) (by omega) (by omega) (by omega)
  obtain ⟨b10,c10⟩:=hlt x1 y0 (by omega) (by omega) (by omega) (by omega)
  obtain ⟨b11,c11⟩:=hlt x1 y1 (by omega) (by omega) (by omega) (by omega)
  generalize x0*y0=p00 at *
  generalize x0*y1=p01 at *
  generalize x1*y0=p10 at *
  generalize x1*y1=p11 at *
  simp only [WB]
  refine RS (by omega) (by omega) ?_
  simp only
  refine RS (by omega) (by omega) ?_
  simp only
  refine RS (by omega) (by omega) (RS (by omega) (by omega) ?_)
  simp only
  have e3:∀ y,shl .u64 y 32=(y*4294967296) % 18446744073709551616:=fun y=>AcB 32 (by omega)
  rw [e3]
  have e4:∀ y:Int,(y % 4294967296*4294967296) % 18446744073709551616=y % 4294967296*4294967296:=fun y=>by omega
  rw [e4,vY (by omega) (by omega) (by omega) (by omega),yO (by omega) (by omega)]
  rw [hab] at hQ
  have hfin:NX (((((p11 % 18446744073709551616+(p10 % 18446744073709551616+p00 % 18446744073709551616 / 4294967296) % 18446744073709551616 / 4294967296) % 18446744073709551616+(p01 % 18446744073709551616+(p10 % 18446744073709551616+p00 % 18446744073709551616 / 4294967296) % 18446744073709551616 % 4294967296) % 18446744073709551616 / 4294967296) % 18446744073709551616)*18446744073709551616+((p01 % 18446744073709551616+(p10 % 18446744073709551616+p00 % 18446744073709551616 / 4294967296) % 18446744073709551616 % 4294967296) % 18446744073709551616 % 4294967296*4294967296+p00 % 18446744073709551616 % 4294967296)))=NX (p11*18446744073709551616+(p10+p01)*4294967296+p00):=by
    unfold NX
    apply PU
    · simp only [IZ]; omega
    · simp only; omega
  rw [hfin]; exact hQ
theorem cC {a:AQ} (h:PE a):a=NX (a.Hi*18446744073709551616+a.Lo):=by
  unfold PE at h
  rw [←yO (by omega) (by omega)]
  apply PU
  · simp only [IZ]; omega
  · rfl
theorem AcC {x:Int} {Q:AQ→Prop} (hQ:Q (NX (-x))):bE ⟨0,0⟩ (NX x) Q:=by
  unfold bE SJ
  have key:∀ c:Int,(c=if 0<(NX x).Lo then 1 else 0)→(⟨AH ((((0 % 18446744073709551616) - ((NX x).Hi % 18446744073709551616)) % 18446744073709551616 - c) % 18446744073709551616),(0 - (NX x).Lo) % 18446744073709551616⟩:AQ)=NX (-x):=by
    intro c hc
    unfold NX at *
    subst hc
    apply PU
    · simp only [IZ]; split <;> omega
    · simp only; omega
  simp only [WB]
  refine AB (fun h=>?_) (fun h=>?_)
  · rw [key 1 (by rw [if_pos h])]; exact hQ
  · rw [key 0 (by rw [if_neg h])]; exact hQ
theorem rY {a b:Int} {Q:AQ→Prop} (ha:FS a) (hb:FS b) (hQ:Q (NX (a*b))):bF a b Q:=by
  unfold bF
  unfold FS at ha hb
  have hs:∀ {x:Int} {K:Int→Prop},-9223372036854775808≤x∧x≤9223372036854775807→K (if x<0 then -x else x)→VK x K:=by
    intro x K hx hK
    unfold VK
    simp only [WB]
    refine AB (fun h=>?_) (fun h=>?_)
    · rw [if_pos h] at hK; rwa [show (0 - x % 18446744073709551616) % 18446744073709551616 = -x by omega]
    · rw [if_neg h] at hK; rwa [show x % 18446744073709551616=x by omega]
  refine hs ha (hs hb ?_)
  have m1 : -a*b = -(a*b):=Int.neg_mul _ _
  have m2:a * -b = -(a*b):=Int.mul_neg _ _
  have m3 : -a * -b=a*b:=Int.neg_mul_neg _ _
  refine vZ (by split <;> omega) (by split <;> omega) (by split <;> omega) (by split <;> omega) ?_
  by_cases h1:a<0 <;> by_cases h2:b<0
  · rw [if_pos h1,if_pos h2,m3]
    exact AN (by simp [h1,h2]) hQ
  · rw [if_pos h1,if_neg h2,m1]
    exact AZ (by simp [h1,h2]) (AcC (by rwa [Int.neg_neg]))
  · rw [if_neg h1,if_pos h2,m2]
    exact AZ (by simp [h1,h2]) (AcC (by rwa [Int.neg_neg]))
  · rw [if_neg h1,if_neg h2]
    exact AN (by simp [h1,h2]) hQ
def jK (r a x:Int):AQ:=
  if r=2 then (if a≠0∧x≠0 then ⟨0,1⟩ else ⟨0,0⟩)
  else if r=5 then NX (a*x)
  else if r=1∨r=3∨r=4 then
    (if 4611686018427387904≤a∨4611686018427387904≤x then NX 4611686018427387904
     else if r=3 then NX a else if r=4 then NX x else if fK (NX 4611686018427387904) (NX (a+x)) then NX 4611686018427387904 else NX (a+x))
  else ⟨0,0⟩
theorem PW (r a x:Int):PE (jK r a x):=by
  have h0:PE ⟨0,0⟩:=by unfold PE; simp
  have h1:PE ⟨0,1⟩:=by unfold PE; simp
  unfold jK
  repeat' split
  all_goals first | exact oX _ | exact h0 | exact h1
theorem AeP {x y:Int} (hx : -170141183460469231731687303715884105728≤x∧x<170141183460469231731687303715884105728) (hy : -170141183460469231731687303715884105728≤y∧y<170141183460469231731687303715884105728):fK (NX x) (NX y)↔x≤y:=by
  have h:∀ z:Int,-170141183460469231731687303715884105728≤z∧z<170141183460469231731687303715884105728→AH (z / 18446744073709551616)=z / 18446744073709551616:=by
    intro z hz; rw [IZ]; omega
  unfold fK NX
  simp only [h x hx,h y hy]
  omega
theorem rZ {r a x:Int} {Q:AQ→Prop} (ha:FS a) (hx:FS x) (hQ:Q (jK r a x)):bG r a x Q:=by
  unfold bG
  unfold jK at hQ
  have ia:FS 4611686018427387904:=by unfold FS; omega
  refine CO (fun h=>?_) (fun h=>CO (fun h5=>?_) (fun h5=>?_))
  · rw [if_pos h] at hQ
    refine FJ (fun h1=>bT ?_) (fun h1=>bT ?_)
    · simpa [h1] using hQ
    · simpa [h1] using hQ
  · rw [if_neg h,if_pos h5] at hQ
    exact rY ha hx hQ
  · rw [if_neg h,if_neg h5] at hQ
    have emax:(if x > a then x else a)≥4611686018427387904↔4611686018427387904≤a∨4611686018427387904≤x:=by split <;> omega
    refine FI (fun _=>¬((1≤r∧r≤5)∧(4611686018427387904≤a∨4611686018427387904≤x))) ?_ ?_
    · rintro _ hno
      refine FI (fun p:Int×Int=>(⟨p.1,p.2⟩:AQ)=NX (if r=1 then a else 0)∧(r=1∨r=4)) ?_ ?_
      · rintro ⟨p1,p2⟩ ⟨hp,hr⟩
        simp only at hp ⊢
        refine GF ia (GF hx ?_)
        rw [hp,WH ia,WH hx]
        refine fL (oX _) (oX _) (mL ?_)
        rw [RA]
        rw [if_pos (by omega),if_neg (by omega),if_neg (by omega)] at hQ
        rcases hr with hr | hr
        · rw [if_pos hr]; rwa [if_neg (by omega)] at hQ
        · rw [if_neg (show ¬r=1 by omega),show (0:Int)+x=x by omega]
          rw [if_pos hr] at hQ
          unfold FS at hx
          rwa [if_neg (by rw [AeP (by omega) (by omega)]; omega)]
      · intro k hk
        refine CO (fun h1=>GF ha (hk _ ⟨?_,.inl h1⟩)) (fun h1=>CO (fun h4=>hk _ ⟨?_,.inr h4⟩) (fun h4=>CO (fun h3=>GF ha ?_) (fun h3=>?_)))
        · rw [if_pos h1]; exact WH ha
        · rw [if_neg h1]; decide
        · rw [if_pos (by omega),if_neg (by omega),if_pos h3] at hQ
          rw [WH ha]; exact hQ
        · rw [if_neg (by omega)] at hQ; exact hQ
    · intro k hk
      refine KG ⟨fun h1=>AB (fun h2=>GF ia ?_) (fun h2=>hk _ ?_),fun h1=>hk _ ?_⟩
      · have h1:=of_decide_eq_true h1
        rw [if_pos (by omega),if_pos (emax.1 h2)] at hQ
        rw [WH ia]; exact hQ
      · exact fun h'=>h2 (emax.2 h'.2)
      · exact fun h'=>of_decide_eq_false h1 h'.1
def yQ (f:List Int):Prop:=∀ x∈f,0≤x∧x<18446744073709551616
def MC (f:List Int) (i:Int):Bool:=decide (0≤i) && (ES f (i / 64)).toNat.testBit (i % 64).toNat
theorem jL {f:List Int} {i:Int} (h:(f.length:Int)≤i):ES f i=0:=by
  unfold ES
  rw [List.getD_eq_getElem?_getD,List.getElem?_eq_none (by omega)]; rfl
theorem XL {f:List Int} (h:yQ f) (i:Int):0≤ES f i∧ES f i<18446744073709551616:=by
  by_cases e:i.toNat<f.length
  · have:ES f i=f[i.toNat]:=by simp [ES,List.getD_eq_getElem?_getD,e]
    rw [this]; exact h _ (List.getElem_mem e)
  · have:ES f i=0:=by unfold ES; rw [List.getD_eq_getElem?_getD,List.getElem?_eq_none (by omega)]; rfl
    rw [this]; omega
theorem sE {f:List Int} {i:Int} (h:i<0):MC f i=false:=by
  unfold MC; simp [show ¬0≤i by omega]
theorem AgQ (i:Int):shr .i64 i 6=i / 64:=by
  unfold shr
  rw [Int.fdiv_eq_ediv_of_nonneg _ (by decide)]; rfl
theorem sF {f:List Int} {i:Int} {Q:Bool→Prop} (hQ:Q (decide (0≤i∧i / 64<f.length))):QX f i Q:=by
  unfold QX
  rw [AgQ]
  refine AB (fun h=>?_) (fun h=>?_)
  · simpa [h] using hQ
  · simpa [h] using hQ
theorem AgR (k:Nat):(2:Int) ^ k=((2 ^ k:Nat):Int):=by rw [Int.natCast_pow]; rfl
theorem Ag1 {k:Nat} (hk:k<64):(2:Nat) ^ k<18446744073709551616:=Nat.pow_lt_pow_right (n:=64) (a:=2) (by omega) hk
theorem AeQ {k:Nat} (hk:k<64):shl .u64 1 k=((2 ^ k:Nat):Int):=by
  rw [AcB _ (by omega),Int.one_mul,AgR]
  have hp:=Ag1 hk
  generalize 2 ^ k=p at *
  omega
theorem AgS {i:Int} {Q:Int→Prop} (h0:0≤i) (h1:i<18446744073709551616) (hQ:Q ((2 ^ (i % 64).toNat:Nat):Int)):YF i Q:=by
  unfold YF
  have e:fY .u64 (IntKind.wrap .u64 i) 63=(((i % 64).toNat:Nat):Int):=by
    rw [WB,show i % 18446744073709551616=i by omega,oY h0 h1 (by omega) (by omega)]
    congr 1
    rw [show Int.toNat 63=2 ^ 6 - 1 from rfl,Nat.and_two_pow_sub_one_eq_mod]
    omega
  rw [e]
  refine ⟨by omega,?_⟩
  rw [AeQ (by omega)]; exact hQ
def KX (n:Int):Nat:=((if 4096<(if n<0 then 0 else n) then 4096 else (if n<0 then 0 else n))+63).toNat / 64
def oZ (n:Int):List Int:=List.replicate (KX n) 0
theorem sG (n:Int):KX n≤64:=by unfold KX; split <;> split <;> omega
theorem jM {n i:Int} (h0:0≤i) (hn:i<n) (h:i<4096):i / 64<KX n:=by unfold KX; split <;> split <;> omega
theorem Aa7 {n i:Int} (hn:i / 64<KX n):i<4096:=by unfold KX at hn; split at hn <;> split at hn <;> omega
theorem AeR (n:Int):yQ (oZ n):=by intro x hx; rw [oZ,List.mem_replicate] at hx; omega
theorem AcD (n i:Int):MC (oZ n) i=false:=by
  have:∀ k,ES (oZ n) k=0:=by
    intro k; unfold ES oZ
    rw [List.getD_eq_getElem?_getD,List.getElem?_replicate]; split <;> rfl
  unfold MC; rw [this]; simp
theorem jN {n:Int} {Q:Int→Prop} (hQ:Q (KX n)):UJ n Q:=by
  unfold UJ
  rw [AgQ]
  have e:AH ((if 4096<(if 0 > n then 0 else n) then 4096 else (if 0 > n then 0 else n))+63) / 64=(KX n:Int):=by
    unfold KX
    rw [IZ]
    split <;> split <;> omega
  rw [e]; exact hQ
theorem pA {n:Int} {Q:List Int→Prop} (hQ:Q (oZ n)):YE n Q:=by
  unfold YE
  refine jN ⟨by omega,by have:=sG n; omega,?_⟩
  simpa [oZ] using hQ
def pB (f:List Int) (i:Int):List Int:=if 0≤i∧i / 64<f.length then f.set (i / 64).toNat (((ES f (i / 64)).toNat ||| 2 ^ (i % 64).toNat:Nat):Int) else f
theorem AcE (f:List Int) (i:Int):(pB f i).length=f.length:=by unfold pB; split <;> simp
theorem AeS {f:List Int} (h:yQ f) (i:Int):yQ (pB f i):=by
  unfold pB
  split
  · intro x hx
    rcases List.mem_or_eq_of_mem_set hx with hx | hx
    · exact h x hx
    · have hb:=XL h (i / 64)
      have hp:(2:Nat) ^ (i % 64).toNat<2 ^ 64:=Nat.pow_lt_pow_right (by omega) (by omega)
      have:=Nat.or_lt_two_pow (x:=(ES f (i / 64)).toNat) (y:=2 ^ (i % 64).toNat) (n:=64) (by omega) hp
      omega
  · exact h
theorem AcF {f:List Int} (i j:Int):MC (pB f i) j=if j=i∧0≤i∧i / 64<f.length then true else MC f j:=by
  unfold pB
  by_cases hc:0≤i∧i / 64<f.length
  · rw [if_pos hc]
    rcases Int.lt_or_le j 0 with hj | hj
    · rw [sE hj,if_neg (by omega),sE hj]
    · have hset:∀ v:Int,ES (f.set (i / 64).toNat v) (j / 64)=if j / 64=i / 64 then v else ES f (j / 64):=by
        intro v
        unfold ES
        rw [List.getD_eq_getElem?_getD,List.getD_eq_getElem?_getD]
        by_cases e:j / 64=i / 64
        · rw [if_pos e,e,List.getElem?_set_self (by omega)]; rfl
        · rw [if_neg e,List.getElem?_set_ne (by omega)]
      unfold MC
      rw [hset]
      by_cases e:j / 64=i / 64
      · rw [if_pos e,Int.toNat_natCast,Nat.testBit_or,Nat.testBit_two_pow,e]
        by_cases e2:j=i
        · subst e2; simp [hc,hj]
        · have:¬(i % 64).toNat=(j % 64).toNat:=by omega
          simp [e2,this]
      · rw [if_neg e,if_neg (by intro h; exact e (by rw [h.1]))]
  · rw [if_neg hc,if_neg (fun h=>hc h.2)]
def sH (n:Int) (l:List Int):List Int:=l.foldl (fun f i=>if 0≤i∧i<n∧i<4096 then pB f i else f) (oZ n)
theorem sI (n:Int) (l:List Int) (i:Int):sH n (l++[i])=if 0≤i∧i<n∧i<4096 then pB (sH n l) i else sH n l:=by simp [sH]
theorem sJ (n:Int) (l:List Int):yQ (sH n l)∧(sH n l).length=KX n∧∀ j,MC (sH n l) j=decide (j∈l∧0≤j∧j<n∧j<4096):=by
  suffices H:∀ k,k≤l.length→yQ (sH n (l.take k))∧(sH n (l.take k)).length=KX n∧∀ j,MC (sH n (l.take k)) j=decide (j∈l.take k∧0≤j∧j<n∧j<4096) by
    have:=H l.length (by omega); rwa [List.take_length] at this
  intro k
  induction k with
  | zero=>intro _; exact ⟨AeR n,by simp [sH,oZ],fun j=>by simp [sH,AcD]⟩
  | succ k ih=>
    intro hk
    obtain ⟨h1,h2,h3⟩:=ih (by omega)
    rw [List.take_succ_eq_append_getElem (by omega),sI]
    split
    · rename_i hc
      refine ⟨AeS h1 _,by rw [AcE,h2],fun j=>?_⟩
      rw [AcF,h2,h3]
      have hw:=jM hc.1 hc.2.1 hc.2.2
      by_cases e:j=l[k]
      · subst e
        rw [if_pos ⟨rfl,hc.1,hw⟩]
        exact (decide_eq_true ⟨List.mem_append.2 (.inr (by simp)),hc⟩).symm
      · rw [if_neg (fun h=>e h.1)]
        refine decide_eq_decide.2 ?_
        rw [List.mem_append,List.mem_singleton]
        simp only [e,or_false]
    · rename_i hc
      refine ⟨h1,h2,fun j=>?_⟩
      rw [h3]
      refine decide_eq_decide.2 ?_
      rw [List.mem_append,List.mem_singleton]
      by_cases e:j=l[k]
      · subst e
        constructor
        · rintro ⟨q1,q2⟩; exact ⟨.inl q1,q2⟩
        · rintro ⟨_,q2⟩; exact absurd q2 hc
      · simp only [e,or_false]
theorem sK {n:Int} {l:List Int} {Q:List Int→Prop} (hl:l.length≤1000000000) (hi:∀ x∈l,FS x) (hQ:Q (sH n l)):bH n l Q:=by
  unfold bH
  refine pA (AV (fun (s:List Int) i=>(s,i)) 0 l.length (by omega) (fun k s=>s=sH n (l.take k)) (by omega) (by simp [sH]) (fun k s next _ hk hs hn=>?_) (fun s next hs=>?_))
  · subst hs
    have hsn:=sI n (l.take k) l[k]
    rw [←List.take_succ_eq_append_getElem hk] at hsn
    obtain ⟨p1,p2,_⟩:=sJ n (l.take k)
    have hik:=hi _ (List.getElem_mem hk)
    unfold FS at hik
    refine AB (fun _=>BI hk ?_) (fun h=>by omega)
    refine FI (fun b=>b=decide (l[k]<n∧0≤l[k]∧l[k] / 64<KX n)) ?_ ?_
    · rintro b rfl
      refine AB (fun h=>?_) (fun h=>hn _ ?_)
      · rw [AgQ]
        refine GB (by omega) (by rw [p2]; omega) (AgS h.2.1 (by omega) (GB (by omega) (by rw [p2]; omega) (hn _ ?_)))
        have hb:=XL p1 (l[k] / 64)
        have hp:=Ag1 (k:=(l[k] % 64).toNat) (by omega)
        rw [hsn,if_pos ⟨h.2.1,h.1,Aa7 h.2.2⟩,pB,if_pos ⟨h.2.1,by rw [p2]; exact h.2.2⟩,yP hb.1 hb.2 (Int.natCast_nonneg _) (by generalize 2 ^ (l[k] % 64).toNat=p at *; omega),Int.toNat_natCast]
      · rw [hsn,if_neg]
        intro h'
        exact h ⟨h'.2.1,h'.1,jM h'.1 h'.2.1 h'.2.2⟩
    · intro k' hk'
      refine AB (fun h=>sF (hk' _ ?_)) (fun h=>hk' _ ?_)
      · rw [p2]; simp [h]
      · simp [h]
  · subst hs
    refine AB (fun h=>by omega) (fun _=>?_)
    rw [List.take_length]; exact hQ
def sL (f:List Int):List Int:=((List.range (64*f.length)).filter fun i:Nat=>MC f i).map fun i:Nat=>(i:Int)
def IncI (l:List DU):Prop:=l.Pairwise fun a b=>a.At<b.At
instance (l:List DU):Decidable (IncI l):=by unfold IncI; infer_instance
structure VecP (v:Vec):Prop where
  n0:0≤v.N
  n1:v.N≤4096
  inc:IncI v.Items
  ins:∀ x∈v.Items,0≤x.At∧x.At<v.N
instance (v:Vec):Decidable (VecP v):=decidable_of_iff (0≤v.N∧v.N≤4096∧IncI v.Items∧∀ x∈v.Items,0≤x.At∧x.At<v.N) ⟨fun ⟨a,b,c,d⟩=>⟨a,b,c,d⟩,fun ⟨a,b,c,d⟩=>⟨a,b,c,d⟩⟩
theorem IncI.at {l:List DU} (h:IncI l) {i j:Nat} (hj:j<l.length) (hij:i<j):(l[i]'(by omega)).At<l[j].At:=by
  unfold IncI at h; rw [List.pairwise_iff_getElem] at h; exact h i j (by omega) hj hij
theorem AcG {l:List DU} (h:IncI l) {n:Int} (hn:0≤n) (hi:∀ x∈l,0≤x.At∧x.At<n):(l.length:Int)≤n:=by
  have:∀ k (hk:k<l.length),(k:Int)≤l[k].At:=by
    intro k
    induction k with
    | zero=>intro hk; exact (hi _ (List.getElem_mem hk)).1
    | succ k ih=>intro hk; have:=ih (by omega); have:=h.at hk (i:=k) (by omega); omega
  rcases Nat.eq_zero_or_pos l.length with e | e
  · rw [e]; exact hn
  · have h1:=this (l.length - 1) (by omega)
    have h2:=hi _ (List.getElem_mem (show l.length - 1<l.length by omega))
    omega
theorem VecP.len {v:Vec} (h:VecP v):v.Items.length≤4096:=by have:=AcG h.inc h.n0 h.ins; have:=h.n1; omega
def kvI (x:DU):Int×Int:=(x.At,x.Val)
def WW (l:List DU) (i:Int):Option Int:=BM i (l.map kvI)
theorem PX (s:DU) (l:List DU) (i:Int):WW (s :: l) i=if i=s.At then some s.Val else WW l i:=rfl
theorem cD:∀ {l:List DU} {i:Int},(∀ s∈l,s.At≠i)→WW l i=none
  | [],_,_=>rfl
  | s :: l,i,h=>by rw [PX,if_neg (fun e=>h s (by simp) e.symm)]; exact cD fun x hx=>h x (by simp [hx])
theorem yR:∀ {l:List DU} {i:Int} {v:Int},WW l i=some v→⟨i,v⟩∈l
  | s :: l,i,v,h=>by
    rw [PX] at h
    split at h
    · rename_i e; cases h; subst e; simp
    · exact List.mem_cons_of_mem _ (yR h)
theorem yS:∀ {l:List DU} (h:IncI l) {s:DU},s∈l→WW l s.At=some s.Val
  | x :: l,h,s,hs=>by
    unfold IncI at h
    rw [List.pairwise_cons] at h
    rw [PX]
    rcases List.mem_cons.1 hs with e | hs
    · subst e; rw [if_pos rfl]
    · have:=h.1 s hs
      rw [if_neg (by omega)]; exact yS h.2 hs
theorem TB:∀ (l:List DU) (m:List DU) (i:Int),WW (l++m) i=match WW l i with | some v=>some v | none=>WW m i
  | [],m,i=>rfl
  | s :: l,m,i=>by
    rw [List.cons_append,PX,PX]
    split
    · rfl
    · exact TB l m i
def AiT (o:Option Int):Int×Bool:=match o with | some v=>(v,true) | none=>(0,false)
theorem IncI.take {l:List DU} (h:IncI l) (k:Nat):IncI (l.take k):=List.Pairwise.sublist (List.take_sublist k l) h
def fO (r:Int) (A B:Int→Option Int) (acc:Option AQ) (k:Int):Option AQ:=match A k,B k with | some a,some x=>gX r acc (some (jK r a x)) | _,_=>acc
def XM (r:Int) (n:Nat) (A B:Int→Option Int):Option AQ:=(List.range n).foldl (fun acc (k:Nat)=>fO r A B acc k) none
theorem Aa8 {r:Int} {A B:Int→Option Int} {acc:Option AQ} (h:∀ w,acc=some w→PE w) (k:Int):∀ w,fO r A B acc k=some w→PE w:=by
  intro w hw
  unfold fO at hw
  split at hw
  · cases acc with
    | none=>cases hw; exact PW _ _ _
    | some b=>cases hw; exact SX (h b rfl) (PW _ _ _)
  · exact h w hw
theorem sM (r:Int) (n:Nat) (A B:Int→Option Int):∀ w,XM r n A B=some w→PE w:=by
  unfold XM
  induction n with
  | zero=>intro w hw; cases hw
  | succ n ih=>rw [List.range_succ,List.foldl_append]; exact Aa8 ih n
theorem WI {β γ:Type} {f g:β→γ→β}:∀ {l:List γ} {a:β},(∀ acc k,k∈l→f acc k=g acc k)→l.foldl f a=l.foldl g a
  | [],_,_=>rfl
  | x :: l,a,h=>by rw [List.foldl_cons,List.foldl_cons,h a x (by simp)]; exact WI fun acc k hk=>h acc k (by simp [hk])
theorem cE {β:Type} {step:β→Int→Int→β} {a:β}:∀ {n:Nat} {l:List DU},IncI l→(∀ x∈l,0≤x.At∧x.At<n) →
    l.foldl (fun acc x=>step acc x.At x.Val) a=(List.range n).foldl (fun acc (k:Nat)=>match WW l k with | some v=>step acc k v | none=>acc) a
  | 0,l,h,hi=>by
    cases l with
    | nil=>rfl
    | cons x l=>have:=hi x (by simp); omega
  | n+1,l,h,hi=>by
    rw [List.range_succ,List.foldl_append]
    simp only [List.foldl_cons,List.foldl_nil]
    have hc:l=[]∨∃ p y,l=p++[y]:=by
      rcases List.eq_nil_or_concat l with h | ⟨p,y,h⟩
      · exact .inl h
      · exact .inr ⟨p,y,by rw [h,List.concat_eq_append]⟩
    have old:∀ {l:List DU},IncI l→(∀ x∈l,0≤x.At∧x.At<n)→WW l n=none:=fun _ hi=>cD fun s hs=>by have:=hi s hs; omega
    rcases hc with e | ⟨p,y,e⟩
    · subst e
      rw [←cE (n:=n) (l:=[]) h (by simp)]; rfl
    · subst e
      have hp:IncI p:=(List.pairwise_append.1 h).1
      have hlt:∀ x∈p,x.At<y.At:=fun x hx=>(List.pairwise_append.1 h).2.2 x hx y (by simp)
      by_cases ey:y.At=n
      · have hpin:∀ x∈p,0≤x.At∧x.At<n:=fun x hx=>⟨(hi x (by simp [hx])).1,by have:=hlt x hx; omega⟩
        have e1:WW (p++[y]) n=some y.Val:=by rw [TB,old hp hpin,PX,if_pos ey.symm]
        rw [e1,List.foldl_append,cE hp hpin]
        simp only [List.foldl_cons,List.foldl_nil,ey]
        congr 1
        refine WI fun acc k hk=>?_
        have hk:=List.mem_range.1 hk
        have:WW (p++[y]) k=WW p k:=by rw [TB,PX,if_neg (by omega)]; cases WW p k <;> rfl
        rw [this]
      · have hin:∀ x∈p++[y],0≤x.At∧x.At<n:=by
          intro x hx
          have h1:=hi x hx
          refine ⟨h1.1,?_⟩
          have hy:=hi y (by simp)
          rcases List.mem_append.1 hx with hx | hx
          · have:=hlt x hx; omega
          · simp only [List.mem_singleton] at hx; subst hx; omega
        rw [old h hin,cE h hin]
def VQ (r:Int) (B:Int→Option Int) (acc:Option AQ) (y:DU):Option AQ:=match B y.At with | some x=>gX r acc (some (jK r y.Val x)) | none=>acc
theorem Aa9 {r:Int} {B:Int→Option Int} {acc:Option AQ} (h:∀ w,acc=some w→PE w) (y:DU):∀ w,VQ r B acc y=some w→PE w:=by
  intro w hw
  unfold VQ at hw
  split at hw
  · cases acc with
    | none=>cases hw; exact PW _ _ _
    | some b=>cases hw; exact SX (h b rfl) (PW _ _ _)
  · exact h w hw
theorem mQ (r:Int) (B:Int→Option Int):∀ (l:List DU) (acc:Option AQ),(∀ w,acc=some w→PE w)→∀ w,l.foldl (VQ r B) acc=some w→PE w
  | [],acc,h=>h
  | y :: l,acc,h=>mQ r B l _ (Aa9 h y)
theorem AcH {r:Int} {B:Int→Option Int} {n:Nat} {l:List DU} (h:IncI l) (hi:∀ x∈l,0≤x.At∧x.At<n):l.foldl (VQ r B) none=XM r n (WW l) B:=by
  have:=cE (step:=fun acc k a=>match B k with | some x=>gX r acc (some (jK r a x)) | none=>acc) (a:=none) h hi
  refine this.trans (WI fun acc k _=>?_)
  unfold fO
  cases WW l (k:Int) <;> cases B (k:Int) <;> rfl
def cF (ts:List AD) (i:Int):List DU:=(KQ ts i.toNat).map WV
def zS (r:Int):Int:=if r=1∨r=3∨r=4 then 4611686018427387904 else 0
theorem cG {r:Int} {Q:Int→Prop} (hQ:Q (zS r)):RP r Q:=by
  unfold RP; unfold zS at hQ
  refine CO (fun h=>?_) (fun h=>CO (fun h3=>?_) (fun h3=>CO (fun h4=>?_) (fun h4=>?_)))
  · rwa [if_pos (.inl h)] at hQ
  · rwa [if_pos (.inr (.inl h3))] at hQ
  · rwa [if_pos (.inr (.inr h4))] at hQ
  · rwa [if_neg (by omega)] at hQ
theorem AeT {x:Int} (h0:0≤x) (h1:x<18446744073709551616):fY .u64 x 1=x % 2:=by
  rw [oY h0 h1 (by omega) (by omega),show Int.toNat 1=1 from rfl,Nat.and_one_is_mod]; omega
theorem AeU (x:Int):shr .u64 x 1=x / 2:=Ag0 1 (by omega)
theorem AcI {f:List Int} (hf:yQ f) {i j:Nat} (hj:j<64) {w:Int} (hw:w=ES f i / 2 ^ j):(MC f (64*i+j)=true↔w % 2=1):=by
  have hb:=XL hf i
  unfold MC
  rw [show (64*(i:Int)+j) / 64=i by omega,show ((64*(i:Int)+j) % 64).toNat=j by omega]
  rw [Nat.testBit_eq_decide_div_mod_eq]
  have e:w=(((ES f i).toNat / 2 ^ j:Nat):Int):=by
    rw [hw,Int.natCast_ediv,Int.natCast_pow,Int.toNat_of_nonneg hb.1]; rfl
  rw [e]
  simp only [show decide ((0:Int)≤64*i+j)=true by simp; omega,Bool.true_and,decide_eq_true_eq]
  omega
theorem AaA {f:List Int} (hf:yQ f) {i j k:Nat} (hjk:j≤k) (hk:k<64) {w:Int} (hw:w=ES f i / 2 ^ j) (h0:w=0):MC f (64*i+k)=false:=by
  have hb:=XL hf i
  unfold MC
  rw [show (64*(i:Int)+k) / 64=i by omega,show ((64*(i:Int)+k) % 64).toNat=k by omega]
  have e:w=(((ES f i).toNat / 2 ^ j:Nat):Int):=by
    rw [hw,Int.natCast_ediv,Int.natCast_pow,Int.toNat_of_nonneg hb.1]; rfl
  have hlt:(ES f i).toNat<2 ^ j:=by
    have h0':(ES f i).toNat / 2 ^ j=0:=by omega
    rcases Nat.div_eq_zero_iff.1 h0' with h | h
    · exact absurd h (Nat.ne_of_gt (Nat.pow_pos (by omega)))
    · exact h
  rw [Nat.testBit_lt_two_pow (Nat.lt_of_lt_of_le hlt (Nat.pow_le_pow_right (by omega) hjk))]
  simp
theorem mR {f:List Int} {i j:Nat} {w:Int} (hw:w=ES f i / 2 ^ j):w / 2=ES f i / 2 ^ (j+1):=by
  rw [hw,Int.ediv_ediv_of_nonneg (by exact Int.le_of_lt (Int.pow_pos (by omega))),Int.pow_succ]
end Go.Proofs.YtbohadngdkjljaaGreat
