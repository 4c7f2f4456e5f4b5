import Derived.Test.YtbohadngdkjljaaGreatCsrK
namespace Go.Proofs.YtbohadngdkjljaaGreat
open Go Go.Fw
set_option linter.unusedVariables false
set_option linter.unusedSimpArgs false
def Ai3 (r:Int) (k:EX) (ts:List (EX×Int)):Option AP:=ts.foldl (fun o t=>if k=t.1 then some (match o with | some w=>GF r w (PX t.2) | none=>PX t.2) else o) none
theorem vW (r:Int) (k:EX) (ts:List (EX×Int)):BM k (SC r ts)=Ai3 r k ts:=by
  suffices ∀ (ts:List (EX×Int)) (l:List (EX×AP)),srt l→BM k (ts.foldl (fun l t=>ins r t.1 (PX t.2) l) l)=ts.foldl (fun o t=>if k=t.1 then some (match o with | some w=>GF r w (PX t.2) | none=>PX t.2) else o) (BM k l) from this ts [] .nil
  intro ts
  induction ts with
  | nil=>intro l _; rfl
  | cons t ts ih=>
    intro l h
    simp only [List.foldl_cons]
    rw [ih _ (gS h),oI k h]
    congr 1
    by_cases e:k=t.1
    · subst e; rfl
    · rw [if_neg e,if_neg e]
def sw (p:EX×AP):EX×AP:=((p.1.2,p.1.1),p.2)
theorem Ac9 (k:EX):∀ l:List (EX×AP),BM k (l.map sw)=BM (k.2,k.1) l
  | []=>rfl
  | p :: l=>by
    obtain ⟨⟨a,b⟩,w⟩:=p
    obtain ⟨c,d⟩:=k
    simp only [List.map_cons,BM,sw,Ac9 (c,d) l,Prod.mk.injEq]
    by_cases e:c=b∧d=a
    · rw [if_pos e,if_pos ⟨e.2,e.1⟩]
    · rw [if_neg e,if_neg fun h=>e ⟨h.2,h.1⟩]
theorem AeO {l:List (EX×AP)} (h:EM l):EM (l.map sw):=by
  unfold EM at *
  rw [List.nodup_iff_pairwise_ne,List.pairwise_map] at h
  rw [List.nodup_iff_pairwise_ne,List.pairwise_map,List.pairwise_map]
  refine List.Pairwise.imp (fun {a b} hab e=>hab ?_) h
  obtain ⟨⟨a1,a2⟩,w⟩:=a
  obtain ⟨⟨b1,b2⟩,v⟩:=b
  simp only [sw,Prod.mk.injEq] at *
  exact ⟨e.2,e.1⟩
theorem yI (es:List AM):((SC 1 (es.map oJ)).map sw).Perm (SC 1 (es.map kvF)):=by
  refine dN (AeO (VP (UX _ _))) (VP (UX _ _)) fun k=>?_
  rw [Ac9,vW,vW]
  unfold Ai3
  rw [List.foldl_map,List.foldl_map]
  congr 1
  funext o e
  obtain ⟨c,d⟩:=k
  simp only [oJ,kvF,Prod.mk.injEq]
  by_cases h:d=e.From∧c=e.To
  · rw [if_pos h,if_pos ⟨h.2,h.1⟩]
  · rw [if_neg h,if_neg fun h'=>h ⟨h'.2,h'.1⟩]
theorem oR {v:Int} (h:FP v):KV (PX v)=(v,true):=by
  unfold KV PX
  unfold FP at h
  simp only
  rw [if_pos]
  · rw [IY]; congr 1; omega
  · split <;> omega
theorem AgP (ts:List (EX×Int)) (hv:∀ t∈ts,FP t.2):∀ p∈SC 1 ts,∃ v,FP v∧p.2=PX v:=by
  suffices ∀ (ts:List (EX×Int)) (l:List (EX×AP)),(∀ t∈ts,FP t.2)→(∀ p∈l,∃ v,FP v∧p.2=PX v)→∀ p∈ts.foldl (fun l t=>ins 1 t.1 (PX t.2) l) l,∃ v,FP v∧p.2=PX v from this ts [] hv (by simp)
  have hins:∀ (k:EX) (v:Int),FP v→∀ l:List (EX×AP),(∀ p∈l,∃ v,FP v∧p.2=PX v)→∀ p∈ins 1 k (PX v) l,∃ v,FP v∧p.2=PX v:=by
    intro k v hv l
    induction l with
    | nil=>intro _ p hp; simp [ins] at hp; exact ⟨v,hv,by rw [hp]⟩
    | cons q l ih=>
      intro h p hp
      unfold ins at hp
      split at hp
      · rcases List.mem_cons.1 hp with rfl | hp
        · exact h _ (by simp)
        · exact ih (fun x hx=>h x (by simp [hx])) p hp
      · split at hp
        · rcases List.mem_cons.1 hp with rfl | hp
          · obtain ⟨u,hu,e⟩:=h q (by simp)
            unfold GF
            simp only [true_or,if_true]
            split
            · exact ⟨u,hu,e⟩
            · exact ⟨v,hv,rfl⟩
          · exact h p (by simp [hp])
        · rcases List.mem_cons.1 hp with rfl | hp
          · exact ⟨v,hv,rfl⟩
          · exact h p hp
  intro ts
  induction ts with
  | nil=>intro l _ h; exact h
  | cons t ts ih=>intro l ht h; exact ih _ (fun x hx=>ht x (by simp [hx])) (hins _ _ (ht t (by simp)) l h)
theorem bU {α:Type} {mk:EX→Int→α} {ts:List (EX×Int)} (hv:∀ t∈ts,FP t.2):NJ (SC 1 ts) mk=((SC 1 ts).map (fun p=>mk p.1 (KV p.2).1),0):=by
  refine bP (m:=[]) (.refl _) fun p hp=>?_
  obtain ⟨v,h1,h2⟩:=AgP ts hv p hp
  rw [h2,oR h1]
theorem AcA {r:Int} {k:EX} {v:AP} {l:List (EX×AP)} (h:∀ p∈l,TS p.1 k):ins r k v l=l++[(k,v)]:=by
  induction l with
  | nil=>rfl
  | cons p l ih=>unfold ins; rw [if_pos (h p (by simp)),ih fun q hq=>h q (by simp [hq])]; rfl
theorem yJ {r:Int} {T:List AD} (h:Srt T):SC r (T.map rP)=T.map fun t=>(key t,PX t.Val):=by
  suffices ∀ i,i≤T.length→SC r ((T.take i).map rP)=(T.take i).map fun t=>(key t,PX t.Val) by
    have:=this T.length (Nat.le_refl _)
    rwa [List.take_length] at this
  intro i
  induction i with
  | zero=>intro _; rfl
  | succ i ih=>
    intro hi
    rw [HT (show i<T.length by omega),HT (show i<T.length by omega),oH,ih (by omega),AcA]
    · rfl
    · intro p hp
      obtain ⟨t,ht,rfl⟩:=List.mem_map.1 hp
      obtain ⟨j,hj,rfl⟩:=List.getElem_of_mem ht
      simp only [List.length_take] at hj
      rw [List.getElem_take]
      exact List.pairwise_iff_getElem.1 h j i (by omega) (by omega) (by omega)
theorem AcB {v:Int} (h:FP v):KV (PX v)=(v,true):=by
  unfold KV PX
  unfold FP at h
  simp only
  rw [if_pos]
  · rw [IY]; congr 1; omega
  · split <;> omega
theorem oS {r rows cols:Int} {T:List AD} (h:Canon rows cols T) (hv:∀ t∈T,FP t.Val) (hr:1≤r∧r≤5):ofS r rows cols T=(BO rows cols T,0):=by
  have hf:NJ (SC r (T.map rP)) rQ=(T,0):=by
    rw [yJ h.srt]
    rw [bP (m:=[]) (.refl _) (fun p hp=>by obtain ⟨t,ht,rfl⟩:=List.mem_map.1 hp; rw [AcB (hv t ht)])]
    congr 1
    rw [List.map_map]
    refine (List.map_congr_left fun t ht=>?_).trans (List.map_id T)
    simp only [Function.comp_apply,AcB (hv t ht)]
    rfl
  have h1:=h.r0; have h2:=h.r1; have h3:=h.c0; have h4:=h.c1; have h5:=h.len
  unfold ofS
  rw [if_neg (fun h=>h hr),if_neg (fun h=>h ⟨h1,h2,h3,h4⟩),if_neg (by omega),if_neg (fun h'=>h' h.inn),hf,if_neg (by simp)]
theorem yK {l h c d:Int} {T:List AD} (t:AD):t∈LG l h c d T↔(⟨t.Row+l,t.Col+c,t.Val⟩:AD)∈T∧(0≤t.Row∧t.Row+l<h)∧0≤t.Col∧t.Col+c<d:=by
  unfold LG
  simp only [List.mem_map,List.mem_filter,decide_eq_true_eq]
  constructor
  · rintro ⟨u,⟨hu,hc⟩,rfl⟩
    simp only
    rw [show u.Row - l+l=u.Row by omega,show u.Col - c+c=u.Col by omega]
    exact ⟨hu,by omega,by omega,by omega⟩
  · rintro ⟨hm,hc⟩
    refine ⟨_,⟨hm,?_⟩,?_⟩
    · simp only; omega
    · cases t; simp only [AD.mk.injEq]; exact ⟨by omega,by omega,trivial⟩
def gT (r:Int):Option AP→Option AP→Option AP
  | none,y=>y
  | some a,none=>some a
  | some a,some b=>some (GF r a b)
theorem NL (r:Int) (a:Option AP):gT r a none=a:=by cases a <;> rfl
def NU (z:Int):AP:=⟨AH (z / 18446744073709551616),z % 18446744073709551616⟩
theorem oT (z:Int):PA (NU z):=by unfold PA NU; simp only [IY]; omega
theorem QY (x y:Int):GF 5 (NU x) (NU y)=NU (x+y):=by
  have e:GF 5 (NU x) (NU y)=⟨AH ((NU x).Hi+(NU y).Hi+(if 18446744073709551616≤(NU x).Lo+(NU y).Lo then 1 else 0)),((NU x).Lo+(NU y).Lo) % 18446744073709551616⟩:=rfl
  rw [e]
  unfold NU
  apply PR
  · simp only [IY]; split <;> omega
  · simp only; omega
theorem WG {v:Int} (h:FP v):PX v=NU v:=by
  unfold PX NU FP at *
  apply PR
  · simp only [IY]; split <;> omega
  · rfl
theorem yL {hi lo:Int} (h0:0≤lo) (h1:lo<18446744073709551616):(⟨AH hi,lo⟩:AP)=NU (hi*18446744073709551616+lo):=by
  unfold NU
  apply PR
  · simp only [IY]; omega
  · simp only; omega
theorem Ag0 {x:Int} (k:Nat) (hk:k≤64):shr .u64 x k=x / 2 ^ k:=by
  unfold shr
  rw [Int.fdiv_eq_ediv_of_nonneg _ (Int.le_of_lt (Int.pow_pos (by omega)))]
  have:min (Int.toNat (k:Int)) (IntKind.bits .u64)=k:=by simp [IntKind.bits]; omega
  rw [this]
theorem AcC {x:Int} (k:Nat) (hk:k≤64):shl .u64 x k=(x*2 ^ k) % 18446744073709551616:=by
  unfold shl
  rw [WA]
  have:min (Int.toNat (k:Int)) (IntKind.bits .u64)=k:=by simp [IntKind.bits]; omega
  rw [this]
theorem YJ (x:Int) (h0:0≤x) (h1:x<18446744073709551616):(BitVec.ofInt 64 x).toNat=x.toNat:=by
  rw [BitVec.toNat_ofInt]
  congr 1
  exact Int.emod_eq_of_lt h0 (by simpa using h1)
theorem yM {x y:Int} (hx0:0≤x) (hx1:x<18446744073709551616) (hy0:0≤y) (hy1:y<18446744073709551616):bor .u64 x y=((x.toNat ||| y.toNat:Nat):Int):=by
  unfold bor
  have e:(BitVec.ofInt (IntKind.bits .u64) x ||| BitVec.ofInt (IntKind.bits .u64) y).toNat=x.toNat ||| y.toNat:=by
    show (BitVec.ofInt 64 x ||| BitVec.ofInt 64 y).toNat=_
    rw [BitVec.toNat_or,YJ x hx0 hx1,YJ y hy0 hy1]
  rw [e,WA]
  have:x.toNat ||| y.toNat<2 ^ 64:=Nat.or_lt_two_pow (by omega) (by omega)
  omega
theorem oU {x y:Int} (hx0:0≤x) (hx1:x<18446744073709551616) (hy0:0≤y) (hy1:y<18446744073709551616):fU .u64 x y=((x.toNat &&& y.toNat:Nat):Int):=by
  unfold fU
  have e:(BitVec.ofInt (IntKind.bits .u64) x &&& BitVec.ofInt (IntKind.bits .u64) y).toNat=x.toNat &&& y.toNat:=by
    show (BitVec.ofInt 64 x &&& BitVec.ofInt 64 y).toNat=_
    rw [BitVec.toNat_and,YJ x hx0 hx1,YJ y hy0 hy1]
  rw [e,WA]
  have:x.toNat &&& y.toNat<2 ^ 64:=Nat.and_lt_two_pow _ (by omega)
  omega
theorem vX {h l:Int} (hh0:0≤h) (hh1:h<4294967296) (hl0:0≤l) (hl1:l<4294967296):bor .u64 (h*4294967296) l=h*4294967296+l:=by
  rw [yM (by omega) (by omega) hl0 (by omega)]
  have e:(h*4294967296).toNat=h.toNat <<< 32:=by rw [Nat.shiftLeft_eq]; omega
  rw [e,←Nat.shiftLeft_add_eq_or_of_lt (by omega),Nat.shiftLeft_eq]
  omega
theorem RQ {x:Int} {Q:Int×Int→Prop} (h0:0≤x) (h1:x<18446744073709551616) (hQ:Q (x % 4294967296,x / 4294967296)):GV x Q:=by
  unfold GV
  have e1:shl .u64 x 32=(x*4294967296) % 18446744073709551616:=AcC 32 (by omega)
  have e2:∀ y,shr .u64 y 32=y / 4294967296:=fun y=>Ag0 32 (by omega)
  rw [e1,e2,e2]
  rwa [show x*4294967296 % 18446744073709551616 / 4294967296=x % 4294967296 by omega]
theorem vY {a b:Int} {Q:AP→Prop} (ha0:0≤a) (ha1:a<18446744073709551616) (hb0:0≤b) (hb1:b<18446744073709551616) (hQ:Q (NU (a*b))):QS a b Q:=by
  unfold QS
  have hlt:∀ x y:Int,0≤x→x<4294967296→0≤y→y<4294967296→0≤x*y∧x*y≤18446744065119617025:=by
    intro x y h1 h2 h3 h4
    refine ⟨Int.mul_nonneg h1 h3,?_⟩
    have:=Int.mul_le_mul (show x≤4294967295 by omega) (show y≤4294967295 by omega) h3 (by omega)
    omega
  refine RQ ha0 ha1 (RQ hb0 hb1 ?_)
  simp only
  obtain ⟨x0,hx0⟩:∃ x0,x0=a % 4294967296:=⟨_,rfl⟩
  obtain ⟨x1,hx1⟩:∃ x1,x1=a / 4294967296:=⟨_,rfl⟩
  obtain ⟨y0,hy0⟩:∃ y0,y0=b % 4294967296:=⟨_,rfl⟩
  obtain ⟨y1,hy1⟩:∃ y1,y1=b / 4294967296:=⟨_,rfl⟩
  rw [←hx0,←hx1,←hy0,←hy1]
  have hab:a*b=x1*y1*18446744073709551616+(x1*y0+x0*y1)*4294967296+x0*y0:=by
    have e1:a=x1*4294967296+x0:=by omega
    have e2:b=y1*4294967296+y0:=by omega
    rw [e1,e2,Int.add_mul,Int.mul_add,Int.mul_add]
    have q1:x1*4294967296*(y1*4294967296)=x1*y1*18446744073709551616:=by rw [Int.mul_assoc,Int.mul_left_comm 4294967296 y1,←Int.mul_assoc x1]; rfl
    have q2:x1*4294967296*y0=x1*y0*4294967296:=Int.mul_right_comm _ _ _
    have q3:x0*(y1*4294967296)=x0*y1*4294967296:=(Int.mul_assoc _ _ _).symm
    rw [q1,q2,q3]; omega
  obtain ⟨b00,c00⟩:=hlt x0 y0 (by omega) (by omega) (by omega) (by omega)
  obtain ⟨b01,c01⟩:=hlt x0 y1 (by omega) (by omega) (by omega) (by omega)
  obtain ⟨b10,c10⟩:=hlt x1 y0 (by omega) (by omega) (by omega) (by omega)
  obtain ⟨b11,c11⟩:=hlt x1 y1 (by omega) (by omega) (by omega) (by omega)
  generalize x0*y0=p00 at *
  generalize x0*y1=p01 at *
  generalize x1*y0=p10 at *
  generalize x1*y1=p11 at *
  simp only [WA]
  refine RQ (by omega) (by omega) ?_
  simp only
  refine RQ (by omega) (by omega) ?_
  simp only
  refine RQ (by omega) (by omega) (RQ (by omega) (by omega) ?_)
  simp only
  have e3:∀ y,shl .u64 y 32=(y*4294967296) % 18446744073709551616:=fun y=>AcC 32 (by omega)
  rw [e3]
  have e4:∀ y:Int,(y % 4294967296*4294967296) % 18446744073709551616=y % 4294967296*4294967296:=fun y=>by omega
  rw [e4,vX (by omega) (by omega) (by omega) (by omega),yL (by omega) (by omega)]
  rw [hab] at hQ
  have hfin:NU (((((p11 % 18446744073709551616+(p10 % 18446744073709551616+p00 % 18446744073709551616 / 4294967296) % 18446744073709551616 / 4294967296) % 18446744073709551616+(p01 % 18446744073709551616+(p10 % 18446744073709551616+p00 % 18446744073709551616 / 4294967296) % 18446744073709551616 % 4294967296) % 18446744073709551616 / 4294967296) % 18446744073709551616)*18446744073709551616+((p01 % 18446744073709551616+(p10 % 18446744073709551616+p00 % 18446744073709551616 / 4294967296) % 18446744073709551616 % 4294967296) % 18446744073709551616 % 4294967296*4294967296+p00 % 18446744073709551616 % 4294967296)))=NU (p11*18446744073709551616+(p10+p01)*4294967296+p00):=by
    unfold NU
    apply PR
    · simp only [IY]; omega
    · simp only; omega
  rw [hfin]; exact hQ
theorem bV {a:AP} (h:PA a):a=NU (a.Hi*18446744073709551616+a.Lo):=by
  unfold PA at h
  rw [←yL (by omega) (by omega)]
  apply PR
  · simp only [IY]; omega
  · rfl
theorem AcD {x:Int} {Q:AP→Prop} (hQ:Q (NU (-x))):bA ⟨0,0⟩ (NU x) Q:=by
  unfold bA SH
  have key:∀ c:Int,(c=if 0<(NU x).Lo then 1 else 0)→(⟨AH ((((0 % 18446744073709551616) - ((NU x).Hi % 18446744073709551616)) % 18446744073709551616 - c) % 18446744073709551616),(0 - (NU x).Lo) % 18446744073709551616⟩:AP)=NU (-x):=by
    intro c hc
    unfold NU at *
    subst hc
    apply PR
    · simp only [IY]; split <;> omega
    · simp only; omega
  simp only [WA]
  refine AC (fun h=>?_) (fun h=>?_)
  · rw [key 1 (by rw [if_pos h])]; exact hQ
  · rw [key 0 (by rw [if_neg h])]; exact hQ
theorem rT {a b:Int} {Q:AP→Prop} (ha:FP a) (hb:FP b) (hQ:Q (NU (a*b))):bB a b Q:=by
  unfold bB
  unfold FP at ha hb
  have hs:∀ {x:Int} {K:Int→Prop},-9223372036854775808≤x∧x≤9223372036854775807→K (if x<0 then -x else x)→VJ x K:=by
    intro x K hx hK
    unfold VJ
    simp only [WA]
    refine AC (fun h=>?_) (fun h=>?_)
    · rw [if_pos h] at hK; rwa [show (0 - x % 18446744073709551616) % 18446744073709551616 = -x by omega]
    · rw [if_neg h] at hK; rwa [show x % 18446744073709551616=x by omega]
  refine hs ha (hs hb ?_)
  have m1 : -a*b = -(a*b):=Int.neg_mul _ _
  have m2:a * -b = -(a*b):=Int.mul_neg _ _
  have m3 : -a * -b=a*b:=Int.neg_mul_neg _ _
  refine vY (by split <;> omega) (by split <;> omega) (by split <;> omega) (by split <;> omega) ?_
  by_cases h1:a<0 <;> by_cases h2:b<0
  · rw [if_pos h1,if_pos h2,m3]
    exact AN (by simp [h1,h2]) hQ
  · rw [if_pos h1,if_neg h2,m1]
    exact BF (by simp [h1,h2]) (AcD (by rwa [Int.neg_neg]))
  · rw [if_neg h1,if_pos h2,m2]
    exact BF (by simp [h1,h2]) (AcD (by rwa [Int.neg_neg]))
  · rw [if_neg h1,if_neg h2]
    exact AN (by simp [h1,h2]) hQ
def jC (r a x:Int):AP:=
  if r=2 then (if a≠0∧x≠0 then ⟨0,1⟩ else ⟨0,0⟩)
  else if r=5 then NU (a*x)
  else if r=1∨r=3∨r=4 then
    (if 4611686018427387904≤a∨4611686018427387904≤x then NU 4611686018427387904
     else if r=3 then NU a else if r=4 then NU x else if fF (NU 4611686018427387904) (NU (a+x)) then NU 4611686018427387904 else NU (a+x))
  else ⟨0,0⟩
theorem PT (r a x:Int):PA (jC r a x):=by
  have h0:PA ⟨0,0⟩:=by unfold PA; simp
  have h1:PA ⟨0,1⟩:=by unfold PA; simp
  unfold jC
  repeat' split
  all_goals first | exact oT _ | exact h0 | exact h1
theorem AeP {x y:Int} (hx : -170141183460469231731687303715884105728≤x∧x<170141183460469231731687303715884105728) (hy : -170141183460469231731687303715884105728≤y∧y<170141183460469231731687303715884105728):fF (NU x) (NU y)↔x≤y:=by
  have h:∀ z:Int,-170141183460469231731687303715884105728≤z∧z<170141183460469231731687303715884105728→AH (z / 18446744073709551616)=z / 18446744073709551616:=by
    intro z hz; rw [IY]; omega
  unfold fF NU
  simp only [h x hx,h y hy]
  omega
theorem rU {r a x:Int} {Q:AP→Prop} (ha:FP a) (hx:FP x) (hQ:Q (jC r a x)):bC r a x Q:=by
  unfold bC
  unfold jC at hQ
  have ia:FP 4611686018427387904:=by unfold FP; omega
  refine CU (fun h=>?_) (fun h=>CU (fun h5=>?_) (fun h5=>?_))
  · rw [if_pos h] at hQ
    refine FR (fun h1=>bO ?_) (fun h1=>bO ?_)
    · simpa [h1] using hQ
    · simpa [h1] using hQ
  · rw [if_neg h,if_pos h5] at hQ
    exact rT ha hx hQ
  · rw [if_neg h,if_neg h5] at hQ
    have emax:(if x > a then x else a)≥4611686018427387904↔4611686018427387904≤a∨4611686018427387904≤x:=by split <;> omega
    refine FH (fun _=>¬((1≤r∧r≤5)∧(4611686018427387904≤a∨4611686018427387904≤x))) ?_ ?_
    · rintro _ hno
      refine FH (fun p:Int×Int=>(⟨p.1,p.2⟩:AP)=NU (if r=1 then a else 0)∧(r=1∨r=4)) ?_ ?_
      · rintro ⟨p1,p2⟩ ⟨hp,hr⟩
        simp only at hp ⊢
        refine GD ia (GD hx ?_)
        rw [hp,WG ia,WG hx]
        refine fG (oT _) (oT _) (mG ?_)
        rw [QY]
        rw [if_pos (by omega),if_neg (by omega),if_neg (by omega)] at hQ
        rcases hr with hr | hr
        · rw [if_pos hr]; rwa [if_neg (by omega)] at hQ
        · rw [if_neg (show ¬r=1 by omega),show (0:Int)+x=x by omega]
          rw [if_pos hr] at hQ
          unfold FP at hx
          rwa [if_neg (by rw [AeP (by omega) (by omega)]; omega)]
      · intro k hk
        refine CU (fun h1=>GD ha (hk _ ⟨?_,.inl h1⟩)) (fun h1=>CU (fun h4=>hk _ ⟨?_,.inr h4⟩) (fun h4=>CU (fun h3=>GD ha ?_) (fun h3=>?_)))
        · rw [if_pos h1]; exact WG ha
        · rw [if_neg h1]; decide
        · rw [if_pos (by omega),if_neg (by omega),if_pos h3] at hQ
          rw [WG ha]; exact hQ
        · rw [if_neg (by omega)] at hQ; exact hQ
    · intro k hk
      refine KG ⟨fun h1=>AC (fun h2=>GD ia ?_) (fun h2=>hk _ ?_),fun h1=>hk _ ?_⟩
      · have h1:=of_decide_eq_true h1
        rw [if_pos (by omega),if_pos (emax.1 h2)] at hQ
        rw [WG ia]; exact hQ
      · exact fun h'=>h2 (emax.2 h'.2)
      · exact fun h'=>of_decide_eq_false h1 h'.1
def yN (f:List Int):Prop:=∀ x∈f,0≤x∧x<18446744073709551616
def MB (f:List Int) (i:Int):Bool:=decide (0≤i) && (EQ f (i / 64)).toNat.testBit (i % 64).toNat
theorem jD {f:List Int} {i:Int} (h:(f.length:Int)≤i):EQ f i=0:=by
  unfold EQ
  rw [List.getD_eq_getElem?_getD,List.getElem?_eq_none (by omega)]; rfl
theorem XK {f:List Int} (h:yN f) (i:Int):0≤EQ f i∧EQ f i<18446744073709551616:=by
  by_cases e:i.toNat<f.length
  · have:EQ f i=f[i.toNat]:=by simp [EQ,List.getD_eq_getElem?_getD,e]
    rw [this]; exact h _ (List.getElem_mem e)
  · have:EQ f i=0:=by unfold EQ; rw [List.getD_eq_getElem?_getD,List.getElem?_eq_none (by omega)]; rfl
    rw [this]; omega
theorem rV {f:List Int} {i:Int} (h:i<0):MB f i=false:=by
  unfold MB; simp [show ¬0≤i by omega]
theorem AgQ (i:Int):shr .i64 i 6=i / 64:=by
  unfold shr
  rw [Int.fdiv_eq_ediv_of_nonneg _ (by decide)]; rfl
theorem rW {f:List Int} {i:Int} {Q:Bool→Prop} (hQ:Q (decide (0≤i∧i / 64<f.length))):QU f i Q:=by
  unfold QU
  rw [AgQ]
  refine AC (fun h=>?_) (fun h=>?_)
  · simpa [h] using hQ
  · simpa [h] using hQ
theorem AgR (k:Nat):(2:Int) ^ k=((2 ^ k:Nat):Int):=by rw [Int.natCast_pow]; rfl
theorem Ag1 {k:Nat} (hk:k<64):(2:Nat) ^ k<18446744073709551616:=Nat.pow_lt_pow_right (n:=64) (a:=2) (by omega) hk
theorem AeQ {k:Nat} (hk:k<64):shl .u64 1 k=((2 ^ k:Nat):Int):=by
  rw [AcC _ (by omega),Int.one_mul,AgR]
  have hp:=Ag1 hk
  generalize 2 ^ k=p at *
  omega
theorem AgS {i:Int} {Q:Int→Prop} (h0:0≤i) (h1:i<18446744073709551616) (hQ:Q ((2 ^ (i % 64).toNat:Nat):Int)):YE i Q:=by
  unfold YE
  have e:fU .u64 (IntKind.wrap .u64 i) 63=(((i % 64).toNat:Nat):Int):=by
    rw [WA,show i % 18446744073709551616=i by omega,oU h0 h1 (by omega) (by omega)]
    congr 1
    rw [show Int.toNat 63=2 ^ 6 - 1 from rfl,Nat.and_two_pow_sub_one_eq_mod]
    omega
  rw [e]
  refine ⟨by omega,?_⟩
  rw [AeQ (by omega)]; exact hQ
def KW (n:Int):Nat:=((if 4096<(if n<0 then 0 else n) then 4096 else (if n<0 then 0 else n))+63).toNat / 64
def oV (n:Int):List Int:=List.replicate (KW n) 0
theorem rX (n:Int):KW n≤64:=by unfold KW; split <;> split <;> omega
theorem jE {n i:Int} (h0:0≤i) (hn:i<n) (h:i<4096):i / 64<KW n:=by unfold KW; split <;> split <;> omega
theorem Aa8 {n i:Int} (hn:i / 64<KW n):i<4096:=by unfold KW at hn; split at hn <;> split at hn <;> omega
theorem AeR (n:Int):yN (oV n):=by intro x hx; rw [oV,List.mem_replicate] at hx; omega
theorem AcE (n i:Int):MB (oV n) i=false:=by
  have:∀ k,EQ (oV n) k=0:=by
    intro k; unfold EQ oV
    rw [List.getD_eq_getElem?_getD,List.getElem?_replicate]; split <;> rfl
  unfold MB; rw [this]; simp
theorem jF {n:Int} {Q:Int→Prop} (hQ:Q (KW n)):UI n Q:=by
  unfold UI
  rw [AgQ]
  have e:AH ((if 4096<(if 0 > n then 0 else n) then 4096 else (if 0 > n then 0 else n))+63) / 64=(KW n:Int):=by
    unfold KW
    rw [IY]
    split <;> split <;> omega
  rw [e]; exact hQ
theorem oW {n:Int} {Q:List Int→Prop} (hQ:Q (oV n)):YD n Q:=by
  unfold YD
  refine jF ⟨by omega,by have:=rX n; omega,?_⟩
  simpa [oV] using hQ
def oX (f:List Int) (i:Int):List Int:=if 0≤i∧i / 64<f.length then f.set (i / 64).toNat (((EQ f (i / 64)).toNat ||| 2 ^ (i % 64).toNat:Nat):Int) else f
theorem AcF (f:List Int) (i:Int):(oX f i).length=f.length:=by unfold oX; split <;> simp
theorem AeS {f:List Int} (h:yN f) (i:Int):yN (oX f i):=by
  unfold oX
  split
  · intro x hx
    rcases List.mem_or_eq_of_mem_set hx with hx | hx
    · exact h x hx
    · have hb:=XK h (i / 64)
      have hp:(2:Nat) ^ (i % 64).toNat<2 ^ 64:=Nat.pow_lt_pow_right (by omega) (by omega)
      have:=Nat.or_lt_two_pow (x:=(EQ f (i / 64)).toNat) (y:=2 ^ (i % 64).toNat) (n:=64) (by omega) hp
      omega
  · exact h
theorem AcG {f:List Int} (i j:Int):MB (oX f i) j=if j=i∧0≤i∧i / 64<f.length then true else MB f j:=by
  unfold oX
  by_cases hc:0≤i∧i / 64<f.length
  · rw [if_pos hc]
    rcases Int.lt_or_le j 0 with hj | hj
    · rw [rV hj,if_neg (by omega),rV hj]
    · have hset:∀ v:Int,EQ (f.set (i / 64).toNat v) (j / 64)=if j / 64=i / 64 then v else EQ f (j / 64):=by
        intro v
        unfold EQ
        rw [List.getD_eq_getElem?_getD,List.getD_eq_getElem?_getD]
        by_cases e:j / 64=i / 64
        · rw [if_pos e,e,List.getElem?_set_self (by omega)]; rfl
        · rw [if_neg e,List.getElem?_set_ne (by omega)]
      unfold MB
      rw [hset]
      by_cases e:j / 64=i / 64
      · rw [if_pos e,Int.toNat_natCast,Nat.testBit_or,Nat.testBit_two_pow,e]
        by_cases e2:j=i
        · subst e2; simp [hc,hj]
        · have:¬(i % 64).toNat=(j % 64).toNat:=by omega
          simp [e2,this]
      · rw [if_neg e,if_neg (by intro h; exact e (by rw [h.1]))]
  · rw [if_neg hc,if_neg (fun h=>hc h.2)]
def rY (n:Int) (l:List Int):List Int:=l.foldl (fun f i=>if 0≤i∧i<n∧i<4096 then oX f i else f) (oV n)
theorem rZ (n:Int) (l:List Int) (i:Int):rY n (l++[i])=if 0≤i∧i<n∧i<4096 then oX (rY n l) i else rY n l:=by simp [rY]
theorem sE (n:Int) (l:List Int):yN (rY n l)∧(rY n l).length=KW n∧∀ j,MB (rY n l) j=decide (j∈l∧0≤j∧j<n∧j<4096):=by
  suffices H:∀ k,k≤l.length→yN (rY n (l.take k))∧(rY n (l.take k)).length=KW n∧∀ j,MB (rY n (l.take k)) j=decide (j∈l.take k∧0≤j∧j<n∧j<4096) by
    have:=H l.length (by omega); rwa [List.take_length] at this
  intro k
  induction k with
  | zero=>intro _; exact ⟨AeR n,by simp [rY,oV],fun j=>by simp [rY,AcE]⟩
  | succ k ih=>
    intro hk
    obtain ⟨h1,h2,h3⟩:=ih (by omega)
    rw [List.take_succ_eq_append_getElem (by omega),rZ]
    split
    · rename_i hc
      refine ⟨AeS h1 _,by rw [AcF,h2],fun j=>?_⟩
      rw [AcG,h2,h3]
      have hw:=jE hc.1 hc.2.1 hc.2.2
      by_cases e:j=l[k]
      · subst e
        rw [if_pos ⟨rfl,hc.1,hw⟩]
        exact (decide_eq_true ⟨List.mem_append.2 (.inr (by simp)),hc⟩).symm
      · rw [if_neg (fun h=>e h.1)]
        refine decide_eq_decide.2 ?_
        rw [List.mem_append,List.mem_singleton]
        simp only [e,or_false]
    · rename_i hc
      refine ⟨h1,h2,fun j=>?_⟩
      rw [h3]
      refine decide_eq_decide.2 ?_
      rw [List.mem_append,List.mem_singleton]
      by_cases e:j=l[k]
      · subst e
        constructor
        · rintro ⟨q1,q2⟩; exact ⟨.inl q1,q2⟩
        · rintro ⟨_,q2⟩; exact absurd q2 hc
      · simp only [e,or_false]
theorem sF {n:Int} {l:List Int} {Q:List Int→Prop} (hl:l.length≤1000000000) (hi:∀ x∈l,FP x) (hQ:Q (rY n l)):bD n l Q:=by
  unfold bD
  refine oW (AW (fun (s:List Int) i=>(s,i)) 0 l.length (by omega) (fun k s=>s=rY n (l.take k)) (by omega) (by simp [rY]) (fun k s next _ hk hs hn=>?_) (fun s next hs=>?_))
  · subst hs
    have hsn:=rZ n (l.take k) l[k]
    rw [←List.take_succ_eq_append_getElem hk] at hsn
    obtain ⟨p1,p2,_⟩:=sE n (l.take k)
    have hik:=hi _ (List.getElem_mem hk)
    unfold FP at hik
    refine AC (fun _=>AV hk ?_) (fun h=>by omega)
    refine FH (fun b=>b=decide (l[k]<n∧0≤l[k]∧l[k] / 64<KW n)) ?_ ?_
    · rintro b rfl
      refine AC (fun h=>?_) (fun h=>hn _ ?_)
      · rw [AgQ]
        refine FZ (by omega) (by rw [p2]; omega) (AgS h.2.1 (by omega) (FZ (by omega) (by rw [p2]; omega) (hn _ ?_)))
        have hb:=XK p1 (l[k] / 64)
        have hp:=Ag1 (k:=(l[k] % 64).toNat) (by omega)
        rw [hsn,if_pos ⟨h.2.1,h.1,Aa8 h.2.2⟩,oX,if_pos ⟨h.2.1,by rw [p2]; exact h.2.2⟩,yM hb.1 hb.2 (Int.natCast_nonneg _) (by generalize 2 ^ (l[k] % 64).toNat=p at *; omega),Int.toNat_natCast]
      · rw [hsn,if_neg]
        intro h'
        exact h ⟨h'.2.1,h'.1,jE h'.1 h'.2.1 h'.2.2⟩
    · intro k' hk'
      refine AC (fun h=>rW (hk' _ ?_)) (fun h=>hk' _ ?_)
      · rw [p2]; simp [h]
      · simp [h]
  · subst hs
    refine AC (fun h=>by omega) (fun _=>?_)
    rw [List.take_length]; exact hQ
def sG (f:List Int):List Int:=((List.range (64*f.length)).filter fun i:Nat=>MB f i).map fun i:Nat=>(i:Int)
def IncI (l:List DS):Prop:=l.Pairwise fun a b=>a.At<b.At
instance (l:List DS):Decidable (IncI l):=by unfold IncI; infer_instance
structure VecP (v:Vec):Prop where
  n0:0≤v.N
  n1:v.N≤4096
  inc:IncI v.Items
  ins:∀ x∈v.Items,0≤x.At∧x.At<v.N
instance (v:Vec):Decidable (VecP v):=decidable_of_iff (0≤v.N∧v.N≤4096∧IncI v.Items∧∀ x∈v.Items,0≤x.At∧x.At<v.N) ⟨fun ⟨a,b,c,d⟩=>⟨a,b,c,d⟩,fun ⟨a,b,c,d⟩=>⟨a,b,c,d⟩⟩
theorem IncI.at {l:List DS} (h:IncI l) {i j:Nat} (hj:j<l.length) (hij:i<j):(l[i]'(by omega)).At<l[j].At:=by
  unfold IncI at h; rw [List.pairwise_iff_getElem] at h; exact h i j (by omega) hj hij
theorem AcH {l:List DS} (h:IncI l) {n:Int} (hn:0≤n) (hi:∀ x∈l,0≤x.At∧x.At<n):(l.length:Int)≤n:=by
  have:∀ k (hk:k<l.length),(k:Int)≤l[k].At:=by
    intro k
    induction k with
    | zero=>intro hk; exact (hi _ (List.getElem_mem hk)).1
    | succ k ih=>intro hk; have:=ih (by omega); have:=h.at hk (i:=k) (by omega); omega
  rcases Nat.eq_zero_or_pos l.length with e | e
  · rw [e]; exact hn
  · have h1:=this (l.length - 1) (by omega)
    have h2:=hi _ (List.getElem_mem (show l.length - 1<l.length by omega))
    omega
theorem VecP.len {v:Vec} (h:VecP v):v.Items.length≤4096:=by have:=AcH h.inc h.n0 h.ins; have:=h.n1; omega
def kvI (x:DS):Int×Int:=(x.At,x.Val)
def WU (l:List DS) (i:Int):Option Int:=BM i (l.map kvI)
theorem PU (s:DS) (l:List DS) (i:Int):WU (s :: l) i=if i=s.At then some s.Val else WU l i:=rfl
theorem bW:∀ {l:List DS} {i:Int},(∀ s∈l,s.At≠i)→WU l i=none
  | [],_,_=>rfl
  | s :: l,i,h=>by rw [PU,if_neg (fun e=>h s (by simp) e.symm)]; exact bW fun x hx=>h x (by simp [hx])
theorem yO:∀ {l:List DS} {i:Int} {v:Int},WU l i=some v→⟨i,v⟩∈l
  | s :: l,i,v,h=>by
    rw [PU] at h
    split at h
    · rename_i e; cases h; subst e; simp
    · exact List.mem_cons_of_mem _ (yO h)
theorem yP:∀ {l:List DS} (h:IncI l) {s:DS},s∈l→WU l s.At=some s.Val
  | x :: l,h,s,hs=>by
    unfold IncI at h
    rw [List.pairwise_cons] at h
    rw [PU]
    rcases List.mem_cons.1 hs with e | hs
    · subst e; rw [if_pos rfl]
    · have:=h.1 s hs
      rw [if_neg (by omega)]; exact yP h.2 hs
theorem TA:∀ (l:List DS) (m:List DS) (i:Int),WU (l++m) i=match WU l i with | some v=>some v | none=>WU m i
  | [],m,i=>rfl
  | s :: l,m,i=>by
    rw [List.cons_append,PU,PU]
    split
    · rfl
    · exact TA l m i
def AiQ (o:Option Int):Int×Bool:=match o with | some v=>(v,true) | none=>(0,false)
theorem IncI.take {l:List DS} (h:IncI l) (k:Nat):IncI (l.take k):=List.Pairwise.sublist (List.take_sublist k l) h
def fJ (r:Int) (A B:Int→Option Int) (acc:Option AP) (k:Int):Option AP:=match A k,B k with | some a,some x=>gT r acc (some (jC r a x)) | _,_=>acc
def XL (r:Int) (n:Nat) (A B:Int→Option Int):Option AP:=(List.range n).foldl (fun acc (k:Nat)=>fJ r A B acc k) none
theorem Aa9 {r:Int} {A B:Int→Option Int} {acc:Option AP} (h:∀ w,acc=some w→PA w) (k:Int):∀ w,fJ r A B acc k=some w→PA w:=by
  intro w hw
  unfold fJ at hw
  split at hw
  · cases acc with
    | none=>cases hw; exact PT _ _ _
    | some b=>cases hw; exact SW (h b rfl) (PT _ _ _)
  · exact h w hw
theorem sH (r:Int) (n:Nat) (A B:Int→Option Int):∀ w,XL r n A B=some w→PA w:=by
  unfold XL
  induction n with
  | zero=>intro w hw; cases hw
  | succ n ih=>rw [List.range_succ,List.foldl_append]; exact Aa9 ih n
theorem WH {β γ:Type} {f g:β→γ→β}:∀ {l:List γ} {a:β},(∀ acc k,k∈l→f acc k=g acc k)→l.foldl f a=l.foldl g a
  | [],_,_=>rfl
  | x :: l,a,h=>by rw [List.foldl_cons,List.foldl_cons,h a x (by simp)]; exact WH fun acc k hk=>h acc k (by simp [hk])
theorem bX {β:Type} {step:β→Int→Int→β} {a:β}:∀ {n:Nat} {l:List DS},IncI l→(∀ x∈l,0≤x.At∧x.At<n) →
    l.foldl (fun acc x=>step acc x.At x.Val) a=(List.range n).foldl (fun acc (k:Nat)=>match WU l k with | some v=>step acc k v | none=>acc) a
  | 0,l,h,hi=>by
    cases l with
    | nil=>rfl
    | cons x l=>have:=hi x (by simp); omega
  | n+1,l,h,hi=>by
    rw [List.range_succ,List.foldl_append]
    simp only [List.foldl_cons,List.foldl_nil]
    have hc:l=[]∨∃ p y,l=p++[y]:=by
      rcases List.eq_nil_or_concat l with h | ⟨p,y,h⟩
      · exact .inl h
      · exact .inr ⟨p,y,by rw [h,List.concat_eq_append]⟩
    have old:∀ {l:List DS},IncI l→(∀ x∈l,0≤x.At∧x.At<n)→WU l n=none:=fun _ hi=>bW fun s hs=>by have:=hi s hs; omega
    rcases hc with e | ⟨p,y,e⟩
    · subst e
      rw [←bX (n:=n) (l:=[]) h (by simp)]; rfl
    · subst e
      have hp:IncI p:=(List.pairwise_append.1 h).1
      have hlt:∀ x∈p,x.At<y.At:=fun x hx=>(List.pairwise_append.1 h).2.2 x hx y (by simp)
      by_cases ey:y.At=n
      · have hpin:∀ x∈p,0≤x.At∧x.At<n:=fun x hx=>⟨(hi x (by simp [hx])).1,by have:=hlt x hx; omega⟩
        have e1:WU (p++[y]) n=some y.Val:=by rw [TA,old hp hpin,PU,if_pos ey.symm]
        rw [e1,List.foldl_append,bX hp hpin]
        simp only [List.foldl_cons,List.foldl_nil,ey]
        congr 1
        refine WH fun acc k hk=>?_
        have hk:=List.mem_range.1 hk
        have:WU (p++[y]) k=WU p k:=by rw [TA,PU,if_neg (by omega)]; cases WU p k <;> rfl
        rw [this]
      · have hin:∀ x∈p++[y],0≤x.At∧x.At<n:=by
          intro x hx
          have h1:=hi x hx
          refine ⟨h1.1,?_⟩
          have hy:=hi y (by simp)
          rcases List.mem_append.1 hx with hx | hx
          · have:=hlt x hx; omega
          · simp only [List.mem_singleton] at hx; subst hx; omega
        rw [old h hin,bX h hin]
def VR (r:Int) (B:Int→Option Int) (acc:Option AP) (y:DS):Option AP:=match B y.At with | some x=>gT r acc (some (jC r y.Val x)) | none=>acc
theorem AaA {r:Int} {B:Int→Option Int} {acc:Option AP} (h:∀ w,acc=some w→PA w) (y:DS):∀ w,VR r B acc y=some w→PA w:=by
  intro w hw
  unfold VR at hw
  split at hw
  · cases acc with
    | none=>cases hw; exact PT _ _ _
    | some b=>cases hw; exact SW (h b rfl) (PT _ _ _)
  · exact h w hw
theorem mJ (r:Int) (B:Int→Option Int):∀ (l:List DS) (acc:Option AP),(∀ w,acc=some w→PA w)→∀ w,l.foldl (VR r B) acc=some w→PA w
  | [],acc,h=>h
  | y :: l,acc,h=>mJ r B l _ (AaA h y)
theorem AcI {r:Int} {B:Int→Option Int} {n:Nat} {l:List DS} (h:IncI l) (hi:∀ x∈l,0≤x.At∧x.At<n):l.foldl (VR r B) none=XL r n (WU l) B:=by
  have:=bX (step:=fun acc k a=>match B k with | some x=>gT r acc (some (jC r a x)) | none=>acc) (a:=none) h hi
  refine this.trans (WH fun acc k _=>?_)
  unfold fJ
  cases WU l (k:Int) <;> cases B (k:Int) <;> rfl
def bY (ts:List AD) (i:Int):List DS:=(KP ts i.toNat).map WT
def zS (r:Int):Int:=if r=1∨r=3∨r=4 then 4611686018427387904 else 0
theorem bZ {r:Int} {Q:Int→Prop} (hQ:Q (zS r)):RN r Q:=by
  unfold RN; unfold zS at hQ
  refine CU (fun h=>?_) (fun h=>CU (fun h3=>?_) (fun h3=>CU (fun h4=>?_) (fun h4=>?_)))
  · rwa [if_pos (.inl h)] at hQ
  · rwa [if_pos (.inr (.inl h3))] at hQ
  · rwa [if_pos (.inr (.inr h4))] at hQ
  · rwa [if_neg (by omega)] at hQ
theorem AeT {x:Int} (h0:0≤x) (h1:x<18446744073709551616):fU .u64 x 1=x % 2:=by
  rw [oU h0 h1 (by omega) (by omega),show Int.toNat 1=1 from rfl,Nat.and_one_is_mod]; omega
theorem AeU (x:Int):shr .u64 x 1=x / 2:=Ag0 1 (by omega)
theorem AcJ {f:List Int} (hf:yN f) {i j:Nat} (hj:j<64) {w:Int} (hw:w=EQ f i / 2 ^ j):(MB f (64*i+j)=true↔w % 2=1):=by
  have hb:=XK hf i
  unfold MB
  rw [show (64*(i:Int)+j) / 64=i by omega,show ((64*(i:Int)+j) % 64).toNat=j by omega]
  rw [Nat.testBit_eq_decide_div_mod_eq]
  have e:w=(((EQ f i).toNat / 2 ^ j:Nat):Int):=by
    rw [hw,Int.natCast_ediv,Int.natCast_pow,Int.toNat_of_nonneg hb.1]; rfl
  rw [e]
  simp only [show decide ((0:Int)≤64*i+j)=true by simp; omega,Bool.true_and,decide_eq_true_eq]
  omega
theorem AaB {f:List Int} (hf:yN f) {i j k:Nat} (hjk:j≤k) (hk:k<64) {w:Int} (hw:w=EQ f i / 2 ^ j) (h0:w=0):MB f (64*i+k)=false:=by
  have hb:=XK hf i
  unfold MB
  rw [show (64*(i:Int)+k) / 64=i by omega,show ((64*(i:Int)+k) % 64).toNat=k by omega]
  have e:w=(((EQ f i).toNat / 2 ^ j:Nat):Int):=by
    rw [hw,Int.natCast_ediv,Int.natCast_pow,Int.toNat_of_nonneg hb.1]; rfl
  have hlt:(EQ f i).toNat<2 ^ j:=by
    have h0':(EQ f i).toNat / 2 ^ j=0:=by omega
    rcases Nat.div_eq_zero_iff.1 h0' with h | h
    · exact absurd h (Nat.ne_of_gt (Nat.pow_pos (by omega)))
    · exact h
  rw [Nat.testBit_lt_two_pow (Nat.lt_of_lt_of_le hlt (Nat.pow_le_pow_right (by omega) hjk))]
  simp
theorem mK {f:List Int} {i j:Nat} {w:Int} (hw:w=EQ f i / 2 ^ j):w / 2=EQ f i / 2 ^ (j+1):=by
  rw [hw,Int.ediv_ediv_of_nonneg (by exact Int.le_of_lt (Int.pow_pos (by omega))),Int.pow_succ]
end Go.Proofs.YtbohadngdkjljaaGreat
