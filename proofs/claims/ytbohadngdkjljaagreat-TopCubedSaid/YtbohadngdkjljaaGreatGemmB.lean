import Derived.Test.YtbohadngdkjljaaGreatPushB
namespace Go.Proofs.YtbohadngdkjljaaGreat
open Go Go.Fw
set_option linter.unusedVariables false
set_option linter.unusedSimpArgs false
def NT (z:Int):AL:=⟨AJ (z / 18446744073709551616),z % 18446744073709551616⟩
theorem jZ (z:Int):LX (NT z):=by unfold LX NT; simp only [HG]; omega
theorem RR (x y:Int):FM 5 (NT x) (NT y)=NT (x+y):=by
  have e:FM 5 (NT x) (NT y)=⟨AJ ((NT x).Hi+(NT y).Hi+(if 18446744073709551616≤(NT x).Lo+(NT y).Lo then 1 else 0)),((NT x).Lo+(NT y).Lo) % 18446744073709551616⟩:=rfl
  rw [e]
  unfold NT
  apply NS
  · simp only [HG]; split <;> omega
  · simp only; omega
theorem YV {v:Int} (h:GS v):QH v=NT v:=by
  unfold QH NT GS at *
  apply NS
  · simp only [HG]; split <;> omega
  · rfl
theorem sH {hi lo:Int} (h0:0≤lo) (h1:lo<18446744073709551616):(⟨AJ hi,lo⟩:AL)=NT (hi*18446744073709551616+lo):=by
  unfold NT
  apply NS
  · simp only [HG]; omega
  · simp only; omega
theorem AcS {x:Int} (k:Nat) (hk:k≤64):shr .u64 x k=x / 2 ^ k:=by
  unfold shr
  rw [Int.fdiv_eq_ediv_of_nonneg _ (Int.le_of_lt (Int.pow_pos (by omega)))]
  have:min (Int.toNat (k:Int)) (IntKind.bits .u64)=k:=by simp [IntKind.bits]; omega
  rw [this]
theorem Ab0 {x:Int} (k:Nat) (hk:k≤64):shl .u64 x k=(x*2 ^ k) % 18446744073709551616:=by
  unfold shl
  rw [SB]
  have:min (Int.toNat (k:Int)) (IntKind.bits .u64)=k:=by simp [IntKind.bits]; omega
  rw [this]
theorem hG (x:Int) (h0:0≤x) (h1:x<18446744073709551616):(BitVec.ofInt 64 x).toNat=x.toNat:=by
  rw [BitVec.toNat_ofInt]
  congr 1
  exact Int.emod_eq_of_lt h0 (by simpa using h1)
theorem Aa1 {x y:Int} (hx0:0≤x) (hx1:x<18446744073709551616) (hy0:0≤y) (hy1:y<18446744073709551616):yZ .u64 x y=((x.toNat ||| y.toNat:Nat):Int):=by
  unfold yZ
  have e:(BitVec.ofInt (IntKind.bits .u64) x ||| BitVec.ofInt (IntKind.bits .u64) y).toNat=x.toNat ||| y.toNat:=by
    show (BitVec.ofInt 64 x ||| BitVec.ofInt 64 y).toNat=_
    rw [BitVec.toNat_or,hG x hx0 hx1,hG y hy0 hy1]
  rw [e,SB]
  have:x.toNat ||| y.toNat<2 ^ 64:=Nat.or_lt_two_pow (by omega) (by omega)
  omega
theorem pU {h l:Int} (hh0:0≤h) (hh1:h<4294967296) (hl0:0≤l) (hl1:l<4294967296):yZ .u64 (h*4294967296) l=h*4294967296+l:=by
  rw [Aa1 (by omega) (by omega) hl0 (by omega)]
  have e:(h*4294967296).toNat=h.toNat <<< 32:=by rw [Nat.shiftLeft_eq]; omega
  rw [e,←Nat.shiftLeft_add_eq_or_of_lt (by omega),Nat.shiftLeft_eq]
  omega
theorem PK {x:Int} {Q:Int×Int→Prop} (h0:0≤x) (h1:x<18446744073709551616) (hQ:Q (x % 4294967296,x / 4294967296)):GJ x Q:=by
  unfold GJ
  have e1:shl .u64 x 32=(x*4294967296) % 18446744073709551616:=Ab0 32 (by omega)
  have e2:∀ y,shr .u64 y 32=y / 4294967296:=fun y=>AcS 32 (by omega)
  rw [e1,e2,e2]
  rwa [show x*4294967296 % 18446744073709551616 / 4294967296=x % 4294967296 by omega]
theorem pV {a b:Int} {Q:AL→Prop} (ha0:0≤a) (ha1:a<18446744073709551616) (hb0:0≤b) (hb1:b<18446744073709551616) (hQ:Q (NT (a*b))):OV a b Q:=by
  unfold OV
  have hlt:∀ x y:Int,0≤x→x<4294967296→0≤y→y<4294967296→0≤x*y∧x*y≤18446744065119617025:=by
    intro x y h1 h2 h3 h4
    refine ⟨Int.mul_nonneg h1 h3,?_⟩
    have:=Int.mul_le_mul (show x≤4294967295 by omega) (show y≤4294967295 by omega) h3 (by omega)
    omega
  refine PK ha0 ha1 (PK hb0 hb1 ?_)
  simp only
  obtain ⟨x0,hx0⟩:∃ x0,x0=a % 4294967296:=⟨_,rfl⟩
  obtain ⟨x1,hx1⟩:∃ x1,x1=a / 4294967296:=⟨_,rfl⟩
  obtain ⟨y0,hy0⟩:∃ y0,y0=b % 4294967296:=⟨_,rfl⟩
  obtain ⟨y1,hy1⟩:∃ y1,y1=b / 4294967296:=⟨_,rfl⟩
  rw [←hx0,←hx1,←hy0,←hy1]
  have hab:a*b=x1*y1*18446744073709551616+(x1*y0+x0*y1)*4294967296+x0*y0:=by
    have e1:a=x1*4294967296+x0:=by omega
    have e2:b=y1*4294967296+y0:=by omega
    rw [e1,e2,Int.add_mul,Int.mul_add,Int.mul_add]
    have q1:x1*4294967296*(y1*4294967296)=x1*y1*18446744073709551616:=by rw [Int.mul_assoc,Int.mul_left_comm 4294967296 y1,←Int.mul_assoc x1]; rfl
    have q2:x1*4294967296*y0=x1*y0*4294967296:=Int.mul_right_comm _ _ _
    have q3:x0*(y1*4294967296)=x0*y1*4294967296:=(Int.mul_assoc _ _ _).symm
    rw [q1,q2,q3]; omega
  obtain ⟨b00,c00⟩:=hlt x0 y0 (by omega) (by omega) (by omega) (by omega)
  obtain ⟨b01,c01⟩:=hlt x0 y1 (by omega) (by omega) (by omega) (by omega)
  obtain ⟨b10,c10⟩:=hlt x1 y0 (by omega) (by omega) (by omega) (by omega)
  obtain ⟨b11,c11⟩:=hlt x1 y1 (by omega) (by omega) (by omega) (by omega)
  generalize x0*y0=p00 at *
  generalize x0*y1=p01 at *
  generalize x1*y0=p10 at *
  generalize x1*y1=p11 at *
  simp only [SB]
  refine PK (by omega) (by omega) ?_
  simp only
  refine PK (by omega) (by omega) ?_
  simp only
  refine PK (by omega) (by omega) (PK (by omega) (by omega) ?_)
  simp only
  have e3:∀ y,shl .u64 y 32=(y*4294967296) % 18446744073709551616:=fun y=>Ab0 32 (by omega)
  rw [e3]
  have e4:∀ y:Int,(y % 4294967296*4294967296) % 18446744073709551616=y % 4294967296*4294967296:=fun y=>by omega
  rw [e4,pU (by omega) (by omega) (by omega) (by omega),sH (by omega) (by omega)]
  rw [hab] at hQ
  have hfin:NT (((((p11 % 18446744073709551616+(p10 % 18446744073709551616+p00 % 18446744073709551616 / 4294967296) % 18446744073709551616 / 4294967296) % 18446744073709551616+(p01 % 18446744073709551616+(p10 % 18446744073709551616+p00 % 18446744073709551616 / 4294967296) % 18446744073709551616 % 4294967296) % 18446744073709551616 / 4294967296) % 18446744073709551616)*18446744073709551616+((p01 % 18446744073709551616+(p10 % 18446744073709551616+p00 % 18446744073709551616 / 4294967296) % 18446744073709551616 % 4294967296) % 18446744073709551616 % 4294967296*4294967296+p00 % 18446744073709551616 % 4294967296)))=NT (p11*18446744073709551616+(p10+p01)*4294967296+p00):=by
    unfold NT
    apply NS
    · simp only [HG]; omega
    · simp only; omega
  rw [hfin]; exact hQ
theorem YW {a:AL} (h:LX a):a=NT (a.Hi*18446744073709551616+a.Lo):=by
  unfold LX at h
  rw [←sH (by omega) (by omega)]
  apply NS
  · simp only [HG]; omega
  · rfl
theorem wY {x:Int} {Q:AL→Prop} (hQ:Q (NT (-x))):YI ⟨0,0⟩ (NT x) Q:=by
  unfold YI PX
  have key:∀ c:Int,(c=if 0<(NT x).Lo then 1 else 0)→(⟨AJ ((((0 % 18446744073709551616) - ((NT x).Hi % 18446744073709551616)) % 18446744073709551616 - c) % 18446744073709551616),(0 - (NT x).Lo) % 18446744073709551616⟩:AL)=NT (-x):=by
    intro c hc
    unfold NT at *
    subst hc
    apply NS
    · simp only [HG]; split <;> omega
    · simp only; omega
  simp only [SB]
  refine AB (fun h=>?_) (fun h=>?_)
  · rw [key 1 (by rw [if_pos h])]; exact hQ
  · rw [key 0 (by rw [if_neg h])]; exact hQ
theorem mS {a b:Int} {Q:AL→Prop} (ha:GS a) (hb:GS b) (hQ:Q (NT (a*b))):YJ a b Q:=by
  unfold YJ
  unfold GS at ha hb
  have hs:∀ {x:Int} {K:Int→Prop},-9223372036854775808≤x∧x≤9223372036854775807→K (if x<0 then -x else x)→ST x K:=by
    intro x K hx hK
    unfold ST
    simp only [SB]
    refine AB (fun h=>?_) (fun h=>?_)
    · rw [if_pos h] at hK; rwa [show (0 - x % 18446744073709551616) % 18446744073709551616 = -x by omega]
    · rw [if_neg h] at hK; rwa [show x % 18446744073709551616=x by omega]
  refine hs ha (hs hb ?_)
  have m1 : -a*b = -(a*b):=Int.neg_mul _ _
  have m2:a * -b = -(a*b):=Int.mul_neg _ _
  have m3 : -a * -b=a*b:=Int.neg_mul_neg _ _
  refine pV (by split <;> omega) (by split <;> omega) (by split <;> omega) (by split <;> omega) ?_
  by_cases h1:a<0 <;> by_cases h2:b<0
  · rw [if_pos h1,if_pos h2,m3]
    exact AR (by simp [h1,h2]) hQ
  · rw [if_pos h1,if_neg h2,m1]
    exact CD (by simp [h1,h2]) (wY (by rwa [Int.neg_neg]))
  · rw [if_neg h1,if_pos h2,m2]
    exact CD (by simp [h1,h2]) (wY (by rwa [Int.neg_neg]))
  · rw [if_neg h1,if_neg h2]
    exact AR (by simp [h1,h2]) hQ
def dX (r a x:Int):AL:=
  if r=2 then (if a≠0∧x≠0 then ⟨0,1⟩ else ⟨0,0⟩)
  else if r=5 then NT (a*x)
  else if r=1∨r=3∨r=4 then
    (if 4611686018427387904≤a∨4611686018427387904≤x then NT 4611686018427387904
     else if r=3 then NT a else if r=4 then NT x else if Y1 (NT 4611686018427387904) (NT (a+x)) then NT 4611686018427387904 else NT (a+x))
  else ⟨0,0⟩
theorem NU (r a x:Int):LX (dX r a x):=by
  have h0:LX ⟨0,0⟩:=by unfold LX; simp
  have h1:LX ⟨0,1⟩:=by unfold LX; simp
  unfold dX
  repeat' split
  all_goals first | exact jZ _ | exact h0 | exact h1
theorem Aa2 {x y:Int} (hx : -170141183460469231731687303715884105728≤x∧x<170141183460469231731687303715884105728) (hy : -170141183460469231731687303715884105728≤y∧y<170141183460469231731687303715884105728):Y1 (NT x) (NT y)↔x≤y:=by
  have h:∀ z:Int,-170141183460469231731687303715884105728≤z∧z<170141183460469231731687303715884105728→AJ (z / 18446744073709551616)=z / 18446744073709551616:=by
    intro z hz; rw [HG]; omega
  unfold Y1 NT
  simp only [h x hx,h y hy]
  omega
theorem mT {r a x:Int} {Q:AL→Prop} (ha:GS a) (hx:GS x) (hQ:Q (dX r a x)):YK r a x Q:=by
  unfold YK
  unfold dX at hQ
  have ia:GS 4611686018427387904:=by unfold GS; omega
  refine CC (fun h=>?_) (fun h=>CC (fun h5=>?_) (fun h5=>?_))
  · rw [if_pos h] at hQ
    refine EO (fun h1=>YQ ?_) (fun h1=>YQ ?_)
    · simpa [h1] using hQ
    · simpa [h1] using hQ
  · rw [if_neg h,if_pos h5] at hQ
    exact mS ha hx hQ
  · rw [if_neg h,if_neg h5] at hQ
    have emax:(if x > a then x else a)≥4611686018427387904↔4611686018427387904≤a∨4611686018427387904≤x:=by split <;> omega
    refine FD (fun _=>¬((1≤r∧r≤5)∧(4611686018427387904≤a∨4611686018427387904≤x))) ?_ ?_
    · rintro _ hno
      refine FD (fun p:Int×Int=>(⟨p.1,p.2⟩:AL)=NT (if r=1 then a else 0)∧(r=1∨r=4)) ?_ ?_
      · rintro ⟨p1,p2⟩ ⟨hp,hr⟩
        simp only at hp ⊢
        refine JD ia (JD hx ?_)
        rw [hp,YV ia,YV hx]
        refine bD (jZ _) (jZ _) (gV ?_)
        rw [RR]
        rw [if_pos (by omega),if_neg (by omega),if_neg (by omega)] at hQ
        rcases hr with hr | hr
        · rw [if_pos hr]; rwa [if_neg (by omega)] at hQ
        · rw [if_neg (show ¬r=1 by omega),show (0:Int)+x=x by omega]
          rw [if_pos hr] at hQ
          unfold GS at hx
          rwa [if_neg (by rw [Aa2 (by omega) (by omega)]; omega)]
      · intro k hk
        refine CC (fun h1=>JD ha (hk _ ⟨?_,.inl h1⟩)) (fun h1=>CC (fun h4=>hk _ ⟨?_,.inr h4⟩) (fun h4=>CC (fun h3=>JD ha ?_) (fun h3=>?_)))
        · rw [if_pos h1]; exact YV ha
        · rw [if_neg h1]; decide
        · rw [if_pos (by omega),if_neg (by omega),if_pos h3] at hQ
          rw [YV ha]; exact hQ
        · rw [if_neg (by omega)] at hQ; exact hQ
    · intro k hk
      refine MN ⟨fun h1=>AB (fun h2=>JD ia ?_) (fun h2=>hk _ ?_),fun h1=>hk _ ?_⟩
      · have h1:=of_decide_eq_true h1
        rw [if_pos (by omega),if_pos (emax.1 h2)] at hQ
        rw [YV ia]; exact hQ
      · exact fun h'=>h2 (emax.2 h'.2)
      · exact fun h'=>of_decide_eq_false h1 h'.1
def IncI (l:List CN):Prop:=l.Pairwise fun a b=>a.At<b.At
instance (l:List CN):Decidable (IncI l):=by unfold IncI; infer_instance
structure VecP (v:Vec):Prop where
  n0:0≤v.N
  n1:v.N≤4096
  inc:IncI v.Items
  ins:∀ x∈v.Items,0≤x.At∧x.At<v.N
instance (v:Vec):Decidable (VecP v):=decidable_of_iff (0≤v.N∧v.N≤4096∧IncI v.Items∧∀ x∈v.Items,0≤x.At∧x.At<v.N) ⟨fun ⟨a,b,c,d⟩=>⟨a,b,c,d⟩,fun ⟨a,b,c,d⟩=>⟨a,b,c,d⟩⟩
theorem IncI.at {l:List CN} (h:IncI l) {i j:Nat} (hj:j<l.length) (hij:i<j):(l[i]'(by omega)).At<l[j].At:=by
  unfold IncI at h; rw [List.pairwise_iff_getElem] at h; exact h i j (by omega) hj hij
theorem wZ {l:List CN} (h:IncI l) {n:Int} (hn:0≤n) (hi:∀ x∈l,0≤x.At∧x.At<n):(l.length:Int)≤n:=by
  have:∀ k (hk:k<l.length),(k:Int)≤l[k].At:=by
    intro k
    induction k with
    | zero=>intro hk; exact (hi _ (List.getElem_mem hk)).1
    | succ k ih=>intro hk; have:=ih (by omega); have:=h.at hk (i:=k) (by omega); omega
  rcases Nat.eq_zero_or_pos l.length with e | e
  · rw [e]; exact hn
  · have h1:=this (l.length - 1) (by omega)
    have h2:=hi _ (List.getElem_mem (show l.length - 1<l.length by omega))
    omega
theorem VecP.len {v:Vec} (h:VecP v):v.Items.length≤4096:=by have:=wZ h.inc h.n0 h.ins; have:=h.n1; omega
def kvI (x:CN):Int×Int:=(x.At,x.Val)
def UI (l:List CN) (i:Int):Option Int:=BM i (l.map kvI)
theorem NV (s:CN) (l:List CN) (i:Int):UI (s :: l) i=if i=s.At then some s.Val else UI l i:=rfl
theorem YX:∀ {l:List CN} {i:Int},(∀ s∈l,s.At≠i)→UI l i=none
  | [],_,_=>rfl
  | s :: l,i,h=>by rw [NV,if_neg (fun e=>h s (by simp) e.symm)]; exact YX fun x hx=>h x (by simp [hx])
theorem sI:∀ {l:List CN} {i:Int} {v:Int},UI l i=some v→⟨i,v⟩∈l
  | s :: l,i,v,h=>by
    rw [NV] at h
    split at h
    · rename_i e; cases h; subst e; simp
    · exact List.mem_cons_of_mem _ (sI h)
theorem sJ:∀ {l:List CN} (h:IncI l) {s:CN},s∈l→UI l s.At=some s.Val
  | x :: l,h,s,hs=>by
    unfold IncI at h
    rw [List.pairwise_cons] at h
    rw [NV]
    rcases List.mem_cons.1 hs with e | hs
    · subst e; rw [if_pos rfl]
    · have:=h.1 s hs
      rw [if_neg (by omega)]; exact sJ h.2 hs
theorem QJ:∀ (l:List CN) (m:List CN) (i:Int),UI (l++m) i=match UI l i with | some v=>some v | none=>UI m i
  | [],m,i=>rfl
  | s :: l,m,i=>by
    rw [List.cons_append,NV,NV]
    split
    · rfl
    · exact QJ l m i
def AdD (o:Option Int):Int×Bool:=match o with | some v=>(v,true) | none=>(0,false)
theorem IncI.take {l:List CN} (h:IncI l) (k:Nat):IncI (l.take k):=List.Pairwise.sublist (List.take_sublist k l) h
def bG (r:Int) (A B:Int→Option Int) (acc:Option AL) (k:Int):Option AL:=match A k,B k with | some a,some x=>cN r acc (some (dX r a x)) | _,_=>acc
def VP (r:Int) (n:Nat) (A B:Int→Option Int):Option AL:=(List.range n).foldl (fun acc (k:Nat)=>bG r A B acc k) none
theorem tY {r:Int} {A B:Int→Option Int} {acc:Option AL} (h:∀ w,acc=some w→LX w) (k:Int):∀ w,bG r A B acc k=some w→LX w:=by
  intro w hw
  unfold bG at hw
  split at hw
  · cases acc with
    | none=>cases hw; exact NU _ _ _
    | some b=>cases hw; exact SW (h b rfl) (NU _ _ _)
  · exact h w hw
theorem mU (r:Int) (n:Nat) (A B:Int→Option Int):∀ w,VP r n A B=some w→LX w:=by
  unfold VP
  induction n with
  | zero=>intro w hw; cases hw
  | succ n ih=>rw [List.range_succ,List.foldl_append]; exact tY ih n
theorem TS {β γ:Type} {f g:β→γ→β}:∀ {l:List γ} {a:β},(∀ acc k,k∈l→f acc k=g acc k)→l.foldl f a=l.foldl g a
  | [],_,_=>rfl
  | x :: l,a,h=>by rw [List.foldl_cons,List.foldl_cons,h a x (by simp)]; exact TS fun acc k hk=>h acc k (by simp [hk])
theorem YY {β:Type} {step:β→Int→Int→β} {a:β}:∀ {n:Nat} {l:List CN},IncI l→(∀ x∈l,0≤x.At∧x.At<n) →
    l.foldl (fun acc x=>step acc x.At x.Val) a=(List.range n).foldl (fun acc (k:Nat)=>match UI l k with | some v=>step acc k v | none=>acc) a
  | 0,l,h,hi=>by
    cases l with
    | nil=>rfl
    | cons x l=>have:=hi x (by simp); omega
  | n+1,l,h,hi=>by
    rw [List.range_succ,List.foldl_append]
    simp only [List.foldl_cons,List.foldl_nil]
    have hc:l=[]∨∃ p y,l=p++[y]:=by
      rcases List.eq_nil_or_concat l with h | ⟨p,y,h⟩
      · exact .inl h
      · exact .inr ⟨p,y,by rw [h,List.concat_eq_append]⟩
    have old:∀ {l:List CN},IncI l→(∀ x∈l,0≤x.At∧x.At<n)→UI l n=none:=fun _ hi=>YX fun s hs=>by have:=hi s hs; omega
    rcases hc with e | ⟨p,y,e⟩
    · subst e
      rw [←YY (n:=n) (l:=[]) h (by simp)]; rfl
    · subst e
      have hp:IncI p:=(List.pairwise_append.1 h).1
      have hlt:∀ x∈p,x.At<y.At:=fun x hx=>(List.pairwise_append.1 h).2.2 x hx y (by simp)
      by_cases ey:y.At=n
      · have hpin:∀ x∈p,0≤x.At∧x.At<n:=fun x hx=>⟨(hi x (by simp [hx])).1,by have:=hlt x hx; omega⟩
        have e1:UI (p++[y]) n=some y.Val:=by rw [QJ,old hp hpin,NV,if_pos ey.symm]
        rw [e1,List.foldl_append,YY hp hpin]
        simp only [List.foldl_cons,List.foldl_nil,ey]
        congr 1
        refine TS fun acc k hk=>?_
        have hk:=List.mem_range.1 hk
        have:UI (p++[y]) k=UI p k:=by rw [QJ,NV,if_neg (by omega)]; cases UI p k <;> rfl
        rw [this]
      · have hin:∀ x∈p++[y],0≤x.At∧x.At<n:=by
          intro x hx
          have h1:=hi x hx
          refine ⟨h1.1,?_⟩
          have hy:=hi y (by simp)
          rcases List.mem_append.1 hx with hx | hx
          · have:=hlt x hx; omega
          · simp only [List.mem_singleton] at hx; subst hx; omega
        rw [old h hin,YY h hin]
def SY (r:Int) (B:Int→Option Int) (acc:Option AL) (y:CN):Option AL:=match B y.At with | some x=>cN r acc (some (dX r y.Val x)) | none=>acc
theorem tZ {r:Int} {B:Int→Option Int} {acc:Option AL} (h:∀ w,acc=some w→LX w) (y:CN):∀ w,SY r B acc y=some w→LX w:=by
  intro w hw
  unfold SY at hw
  split at hw
  · cases acc with
    | none=>cases hw; exact NU _ _ _
    | some b=>cases hw; exact SW (h b rfl) (NU _ _ _)
  · exact h w hw
theorem hU (r:Int) (B:Int→Option Int):∀ (l:List CN) (acc:Option AL),(∀ w,acc=some w→LX w)→∀ w,l.foldl (SY r B) acc=some w→LX w
  | [],acc,h=>h
  | y :: l,acc,h=>hU r B l _ (tZ h y)
theorem xA {r:Int} {B:Int→Option Int} {n:Nat} {l:List CN} (h:IncI l) (hi:∀ x∈l,0≤x.At∧x.At<n):l.foldl (SY r B) none=VP r n (UI l) B:=by
  have:=YY (step:=fun acc k a=>match B k with | some x=>cN r acc (some (dX r a x)) | none=>acc) (a:=none) h hi
  refine this.trans (TS fun acc k _=>?_)
  unfold bG
  cases UI l (k:Int) <;> cases B (k:Int) <;> rfl
def YZ (ts:List AC) (i:Int):List CN:=(JL ts i.toNat).map TF
def zS (r:Int):Int:=if r=1∨r=3∨r=4 then 4611686018427387904 else 0
theorem kA {r:Int} {Q:Int→Prop} (hQ:Q (zS r)):SU r Q:=by
  unfold SU; unfold zS at hQ
  refine CC (fun h=>?_) (fun h=>CC (fun h3=>?_) (fun h3=>CC (fun h4=>?_) (fun h4=>?_)))
  · rwa [if_pos (.inl h)] at hQ
  · rwa [if_pos (.inr (.inl h3))] at hQ
  · rwa [if_pos (.inr (.inr h4))] at hQ
  · rwa [if_neg (by omega)] at hQ
theorem uA (a b:AL):Y1 a b∨Y1 b a:=by unfold Y1; omega
theorem xB {a b:AL} (h:Y1 a b) (h':Y1 b a):a=b:=by unfold Y1 at *; exact NS (by omega) (by omega)
theorem uB {a b c:AL} (h:Y1 a b) (h':Y1 b c):Y1 a c:=by unfold Y1 at *; omega
def bR (a b:AL):AL:=if Y1 a b then a else b
theorem uC (a b:AL):bR a b=bR b a:=by
  unfold bR
  by_cases h:Y1 a b <;> by_cases h':Y1 b a
  · rw [if_pos h,if_pos h']; exact xB h h'
  · rw [if_pos h,if_neg h']
  · rw [if_neg h,if_pos h']
  · rcases uA a b with e | e
    · exact absurd e h
    · exact absurd e h'
theorem pW (a b c:AL):bR (bR a b) c=bR a (bR b c):=by
  unfold bR
  by_cases h1:Y1 a b <;> by_cases h2:Y1 b c <;> by_cases h3:Y1 a c <;> simp only [h1,h2,h3,if_true,if_false]
  · exact absurd (uB h1 h2) h3
  · exfalso; unfold Y1 at *; omega
theorem uD {r:Int} {a b:AL} (ha:LX a) (hb:LX b):FM r a b=FM r b a:=by
  by_cases h:r=1∨r=3∨r=4
  · have e:∀ a b,FM r a b=bR a b:=fun a b=>by unfold FM bR; rw [if_pos h]
    rw [e,e]; exact uC a b
  · by_cases h2:r=2
    · unfold FM
      rw [if_neg h,if_pos h2,if_neg h,if_pos h2]
      by_cases e1:a=⟨0,0⟩ <;> by_cases e2:b=⟨0,0⟩ <;> simp [e1,e2]
    · by_cases h5:r=5
      · subst h5
        rw [YW ha,YW hb,RR,RR,Int.add_comm]
      · unfold FM; rw [if_neg h,if_neg h2,if_neg h5,if_neg h,if_neg h2,if_neg h5]
theorem pX {r:Int} {a b c:AL} (ha:LX a) (hb:LX b) (hc:LX c):FM r (FM r a b) c=FM r a (FM r b c):=by
  by_cases h:r=1∨r=3∨r=4
  · have e:∀ a b,FM r a b=bR a b:=fun a b=>by unfold FM bR; rw [if_pos h]
    simp only [e]; exact pW a b c
  · by_cases h2:r=2
    · have e:∀ a b,FM r a b=if a=⟨0,0⟩∧b=⟨0,0⟩ then ⟨0,0⟩ else ⟨0,1⟩:=fun a b=>by unfold FM; rw [if_neg h,if_pos h2]
      have n1:(⟨0,1⟩:AL)≠⟨0,0⟩:=by decide
      simp only [e]
      by_cases e1:a=⟨0,0⟩ <;> by_cases e2:b=⟨0,0⟩ <;> by_cases e3:c=⟨0,0⟩ <;> simp [e1,e2,e3]
    · by_cases h5:r=5
      · subst h5
        rw [YW ha,YW hb,YW hc,RR,RR,RR,RR,Int.add_assoc]
      · unfold FM
        simp only [if_neg h,if_neg h2,if_neg h5]
def xC (o:Option AL):Prop:=∀ w,o=some w→LX w
theorem xD {r:Int} {a b:Option AL} (ha:xC a) (hb:xC b):cN r a b=cN r b a:=by
  cases a with
  | none=>cases b <;> rfl
  | some x=>cases b with
    | none=>rfl
    | some y=>simp only [cN]; rw [uD (ha x rfl) (hb y rfl)]
theorem SZ {r:Int} {a b c:Option AL} (ha:xC a) (hb:xC b) (hc:xC c):cN r (cN r a b) c=cN r a (cN r b c):=by
  cases a with
  | none=>cases b <;> rfl
  | some x=>cases b with
    | none=>cases c <;> rfl
    | some y=>cases c with
      | none=>rfl
      | some z=>simp only [cN]; rw [pX (ha x rfl) (hb y rfl) (hc z rfl)]
theorem ZX (r:Int) (n:Nat) (A B:Int→Option Int):VP r (n+1) A B=bG r A B (VP r n A B) n:=by
  unfold VP; rw [List.range_succ,List.foldl_append]; rfl
theorem mV (r:Int) (k:Nat) (A B:Int→Option Int):∀ m:Nat,VP r (k+m) A B=cN r (VP r k A B) (VP r m (fun j=>A (j+k)) (fun j=>B (j+k)))
  | 0=>by rw [Nat.add_zero,show VP r 0 (fun j=>A (j+k)) (fun j=>B (j+k))=none from rfl,LN]
  | m+1=>by
    rw [←Nat.add_assoc,ZX,ZX,mV r k A B m]
    have ho:=mU r m (fun j=>A (j+k)) (fun j=>B (j+k))
    generalize VP r m (fun j=>A (j+k)) (fun j=>B (j+k))=o at ho ⊢
    unfold bG
    rw [show (((k+m:Nat):Int))=(m:Int)+k by omega]
    simp only
    cases hA:A ((m:Int)+k) with
    | none=>rfl
    | some a=>cases hB:B ((m:Int)+k) with
      | none=>rfl
      | some x=>
        have hm:xC (some (dX r a x)):=fun w hw=>by
          have:=Option.some.inj hw
          subst this; exact NU _ _ _
        exact SZ (mU r k A B) ho hm
theorem XO {r:Int} {n:Nat} {A A' B B':Int→Option Int} (hA:∀ j:Nat,j<n→A j=A' j) (hB:∀ j:Nat,j<n→B j=B' j):VP r n A B=VP r n A' B':=by
  unfold VP
  refine TS fun acc k hk=>?_
  have hk:=List.mem_range.1 hk
  unfold bG
  rw [hA k hk,hB k hk]
theorem Aa3 {l:List CN} (h:IncI l) {i a:Int}:UI l i=some a↔(⟨i,a⟩:CN)∈l:=⟨sI,fun hm=>sJ h hm⟩
theorem sK {x y:Option Int} (h:∀ a,x=some a↔y=some a):x=y:=by
  cases x with
  | none=>cases y with
    | none=>rfl
    | some b=>have:=(h b).2 rfl; cases this
  | some a=>exact ((h a).1 rfl).symm
def pY (B:List AC) (c:Int) (k:Int):Option Int:=UI (YZ B k) c
def KA (r:Int) (A B:List AC) (i c:Int):Option AL:=(YZ A i).foldl (SY r (pY B c)) none
def JE (r:Int) (A B:List AC) (t:AC):Option AK:=(KA r A B t.Row t.Col).map fun w=>⟨t.Row,t.Col,w⟩
def EJ (r:Int) (A B M:List AC):List AK:=M.filterMap (JE r A B)
theorem TT {rows cols:Int} {ts:List AC} {i:Nat} {Q:List Int×List Int→Prop} (h:Canon rows cols ts) (hi:(i:Int)<rows) (hQ:Q ((JL ts i).map (·.Col),(JL ts i).map (·.Val))):PJ (BJ rows cols ts) i Q:=by
  unfold PJ
  have hr:=h.r1
  obtain ⟨lo,hi',s⟩:=h.seg i
  have e1:AJ ((i:Int)+1)=(i+1:Nat):=by rw [AW (by omega) (by omega)]; omega
  rw [e1]
  refine MQ (by omega) (MQ (by omega) ?_)
  rw [s.lo,s.hi]
  have h1:=s.le; have h2:=s.len
  have hc:(BJ rows cols ts).Col.length=ts.length:=by simp [BJ]
  have hv:(BJ rows cols ts).Val.length=ts.length:=by simp [BJ]
  refine ⟨by omega,by omega,by omega,by omega,by omega,by omega,?_⟩
  simp only [Int.toNat_natCast,BJ,←List.map_take,←List.map_drop,s.eq]
  exact hQ
theorem kB {l:List Rows} {Q:List Rows→Prop} (hl:l.length≤100) (h:∀ a∈l,small a∧OE a) (hQ:Q l):WB l Q:=by
  unfold WB
  refine BA (fun (s:List Rows) i=>(s,i)) 0 l.length (by omega) (fun i s=>s=l.take i) (by omega) rfl (fun i s next _ hi hm hn=>?_) (fun s next hm=>?_)
  · subst hm
    have hx:=h _ (List.getElem_mem hi)
    refine AB (fun _=>AV hi (YU hx.1 ?_)) (fun h=>by omega)
    rw [decide_eq_true hx.2]
    refine AR rfl (BE (by simp; omega) (hn _ ?_))
    rw [List.take_succ_eq_append_getElem hi]
  · subst hm
    rw [List.take_length]
    exact AB (fun h=>by omega) (fun _=>hQ)
theorem kC {ts:List AC} (h:Srt ts) (i:Nat):IncI ((JL ts i).map TF):=by
  unfold IncI JL
  rw [List.pairwise_map]
  refine List.Pairwise.imp_of_mem ?_ (List.Pairwise.filter _ h)
  intro a b ha hb hab
  have h1:=of_decide_eq_true (List.mem_filter.1 ha).2
  have h2:=of_decide_eq_true (List.mem_filter.1 hb).2
  unfold MO key at hab
  simp only [TF]
  simp only at hab
  omega
def xE (m:List (Int×AL)) (asked:Int→Bool) (f:Int→Option AL):Prop:=(∀ c,asked c=true→BM c m=f c)∧∀ c w,BM c m=some w→LX w
theorem AbP {l:List (Int×Bool)} {k:Int} {C:Bool→Prop} (h:C ((BM k l).getD false)):tG l k false C:=JI h
theorem mW {r ra ca rb cb:Int} {A B:List AC} {asked:List (Int×Bool)} {i:Nat} {Q:List (Int×AL)→Prop} (hA:Canon ra ca A) (hB:Canon rb cb B) (hab:ca≤rb) (hi:(i:Int)<ra) (hr:1≤r∧r≤5) (hvA:∀ t∈A,GS t.Val) (hvB:∀ t∈B,GS t.Val)
    (hQ:∀ m,xE m (fun c=>(BM c asked).getD false) (KA r A B i)→Q m):OW asked r (BJ ra ca A) (BJ rb cb B) i Q:=by
  unfold OW
  refine TT hA hi ?_
  have hsl:=MR A i
  have hAl:=hA.len
  have hBl:=hB.len
  have hrow:∀ t∈JL A i,(0≤t.Col∧t.Col<ca)∧GS t.Val:=fun t ht=>by
    have hm:=(List.mem_filter.1 ht).1
    have:=hA.inn t hm
    unfold SD at this
    exact ⟨⟨this.2.2.1,this.2.2.2⟩,hvA t hm⟩
  unfold KA at hQ
  rw [show YZ A (i:Int)=(JL A i).map TF from rfl] at hQ
  generalize JL A i=xs at hQ hsl hrow
  refine BA (fun (s:List (Int×AL)) k=>(s,k)) 0 xs.length (by omega) (fun k m=>xE m (fun c=>(BM c asked).getD false) fun c=>((xs.take k).map TF).foldl (SY r (pY B c)) none) (by omega) ⟨fun c _=>rfl,fun c w h=>by simp [BM] at h⟩ (fun k m next _ hk hm hn=>?_) (fun m next hm=>?_)
  · dsimp only
    have hx:=hrow _ (List.getElem_mem hk)
    refine AB (fun _=>AM (by omega) (x:=xs[k].Col) (by simp [hk]) ?_) (fun h=>by simp at h; omega)
    obtain ⟨c0,hc0⟩:∃ c0:Nat,xs[k].Col=(c0:Int):=⟨xs[k].Col.toNat,by omega⟩
    rw [hc0]
    refine TT hB (by omega) ?_
    have hinc:=kC hB.srt c0
    have hsl2:=MR B c0
    have hrow2:∀ t∈JL B c0,GS t.Val:=fun t ht=>hvB t (List.mem_filter.1 ht).1
    have hbat:∀ c,pY B c xs[k].Col=UI ((JL B c0).map TF) c:=fun c=>by unfold pY YZ; rw [hc0]; rfl
    generalize JL B c0=ys at hinc hsl2 hrow2 hbat
    -- how it is behind so many of the row's items
    let F:Nat→Int→Option AL:=fun j c=>match UI ((ys.take j).map TF) c with
      | some b=>cN r (((xs.take k).map TF).foldl (SY r (pY B c)) none) (some (dX r xs[k].Val b))
      | none=>((xs.take k).map TF).foldl (SY r (pY B c)) none
    have hF0:F 0=fun c=>((xs.take k).map TF).foldl (SY r (pY B c)) none:=rfl
    refine BA (fun (s:List (Int×AL)) j=>(s,j)) 0 ys.length (by omega) (fun j m=>xE m (fun c=>(BM c asked).getD false) (F j)) (by omega) (by rw [hF0]; exact hm) (fun j m' nx _ hj hm' hnx=>?_) (fun m' nx hm'=>?_)
    · dsimp only
      have htk:(ys.take (j+1)).map TF=(ys.take j).map TF++[TF ys[j]]:=EY hj
      have hFs:∀ c,F (j+1) c=if c=ys[j].Col then F (j+1) c else F j c:=fun c=>by
        by_cases e:c=ys[j].Col
        · rw [if_pos e]
        · rw [if_neg e]
          have:UI ((ys.take (j+1)).map TF) c=UI ((ys.take j).map TF) c:=by
            rw [htk,QJ]
            have h0:UI [TF ys[j]] c=none:=YX fun s hs=>by simp only [List.mem_singleton] at hs; subst hs; exact fun h=>e h.symm
            rw [h0]; split <;> simp_all
          show (match UI ((ys.take (j+1)).map TF) c with | some b=>_ | none=>_)=_
          rw [this]
      have hnew:UI ((ys.take j).map TF) ys[j].Col=none:=YX fun s hs=>by
        obtain ⟨t,ht,rfl⟩:=List.mem_map.1 hs
        obtain ⟨q,hq,rfl⟩:=List.getElem_of_mem ht
        rw [List.length_take] at hq
        rw [List.getElem_take]
        have hlen:(ys.map TF).length=ys.length:=by simp
        have:=hinc.at (i:=q) (j:=j) (by omega) (by omega)
        simp only [List.getElem_map] at this
        intro h
        simp only [TF] at this h
        omega
      have hold:F j ys[j].Col=((xs.take k).map TF).foldl (SY r (pY B ys[j].Col)) none:=by
        show (match UI ((ys.take j).map TF) ys[j].Col with | some b=>_ | none=>_)=_
        rw [hnew]
      have hhit:F (j+1) ys[j].Col=cN r (F j ys[j].Col) (some (dX r xs[k].Val ys[j].Val)):=by
        rw [hold]
        have:UI ((ys.take (j+1)).map TF) ys[j].Col=some ys[j].Val:=by rw [htk,QJ,hnew]; simp [NV,TF]
        show (match UI ((ys.take (j+1)).map TF) ys[j].Col with | some b=>_ | none=>_)=_
        rw [this]
      have hy:=hrow2 _ (List.getElem_mem hj)
      refine AB (fun _=>AM (by omega) (x:=ys[j].Col) (by simp [hj]) (AbP ?_)) (fun h=>by simp at h; omega)
      cases ha:(BM ys[j].Col asked).getD false with
      | false=>
        refine CD rfl (hnx _ ⟨fun c hc=>?_,hm'.2⟩)
        rw [hFs,if_neg (fun e=>by subst e; simp only at hc; rw [ha] at hc; cases hc)]
        exact hm'.1 c hc
      | true=>
        have hcur:=hm'.1 ys[j].Col ha
        refine AR rfl (AM (by omega) (x:=xs[k].Val) (by simp [hk]) (AM (by omega) (x:=ys[j].Val) (by simp [hj]) (mT hx.2 hy (XI (fun w hw=>?_) (fun hw=>?_)))))
        · refine CD rfl (VG (hm'.2 _ _ hw) (NU _ _ _) (hnx _ ⟨fun c hc=>?_,fun c u hu=>?_⟩))
          · by_cases e:c=ys[j].Col
            · subst e; rw [BK,hhit,←hcur,hw]; rfl
            · rw [BD e,hFs,if_neg e]; exact hm'.1 c hc
          · by_cases e:c=ys[j].Col
            · subst e; rw [BK] at hu; cases hu; exact SW (hm'.2 _ _ hw) (NU _ _ _)
            · rw [BD e] at hu; exact hm'.2 c u hu
        · refine AR rfl (hnx _ ⟨fun c hc=>?_,fun c u hu=>?_⟩)
          · by_cases e:c=ys[j].Col
            · subst e; rw [BK,hhit,←hcur,hw]; rfl
            · rw [BD e,hFs,if_neg e]; exact hm'.1 c hc
          · by_cases e:c=ys[j].Col
            · subst e; rw [BK] at hu; cases hu; exact NU _ _ _
            · rw [BD e] at hu; exact hm'.2 c u hu
    · dsimp only
      refine AB (fun h=>by simp at h) (fun _=>hn _ ⟨fun c hc=>?_,hm'.2⟩)
      rw [hm'.1 c hc,EY hk]
      show F ys.length c=List.foldl (SY r (pY B c)) none ((xs.take k).map TF++[TF xs[k]])
      rw [List.foldl_append]
      show (match UI ((ys.take ys.length).map TF) c with | some b=>_ | none=>_)=SY r (pY B c) _ (TF xs[k])
      rw [List.take_length,←hbat c]
      unfold SY
      simp only [TF]
      all_goals (split <;> simp_all)
  · dsimp only
    rw [List.take_length] at hm
    exact AB (fun h=>by simp at h) (fun _=>hQ m hm)
def SE (r ra ca rb cb rm cm:Int) (A B M:List AC):List AK×Int:=
  if ¬(1≤r∧r≤5) then ([],8) else if ca≠rb∨rm≠ra∨cm≠cb then ([],4) else (EJ r A B M,0)
theorem uE (r:Int) (A B M:List AC):(EJ r A B M).length≤M.length:=List.length_filterMap_le _ _
theorem xF {T:List AC} {i lo hi:Nat} (s:Seg T i lo hi):T.take hi=T.take lo++JL T i:=by
  have h:=List.take_append_drop lo (T.take hi)
  rw [s.eq,List.take_take,Nat.min_eq_left s.le] at h
  exact h.symm
theorem fR {r ra ca rb cb rm cm:Int} {A B M:List AC} {Q:List AK×Int→Prop} (hA:Canon ra ca A) (hB:Canon rb cb B) (hM:Canon rm cm M) (hvA:∀ t∈A,GS t.Val) (hvB:∀ t∈B,GS t.Val)
    (hQ:Q (SE r ra ca rb cb rm cm A B M)):QA r (BJ ra ca A) (BJ rb cb B) (BJ rm cm M) Q:=by
  unfold QA
  refine kB (by simp) (fun a ha=>?_) (AM (by omega) rfl (AM (by omega) rfl (AM (by omega) rfl (MN ?_))))
  · simp only [List.mem_cons,List.not_mem_nil,or_false] at ha
    rcases ha with rfl | rfl | rfl
    · exact ⟨hA.sml,hA.right⟩
    · exact ⟨hB.sml,hB.right⟩
    · exact ⟨hM.sml,hM.right⟩
  unfold SE at hQ
  refine CP (fun h=>?_) (fun h=>?_)
  · rwa [if_pos (of_decide_eq_false h)] at hQ
  have hr:=of_decide_eq_true h
  rw [if_neg (fun h=>h hr)] at hQ
  have hbad (hb:ca≠rb∨rm≠ra∨cm≠cb):Q ([],4):=by rwa [if_pos hb] at hQ
  refine EO (fun h=>hbad (.inl h)) (fun h1=>EO (fun h=>hbad (.inr (.inl h))) (fun h2=>EO (fun h=>hbad (.inr (.inr h))) (fun h3=>?_)))
  have h1:ca=rb:=h1
  have h2:rm=ra:=h2
  have h3:cm=cb:=h3
  rw [if_neg (by omega)] at hQ
  have hrm:=hM.r0; have hrm1:=hM.r1; have hMl:=hM.len
  obtain ⟨n,hn⟩:∃ n:Nat,rm=(n:Int):=⟨rm.toNat,by omega⟩
  have hR:(BJ rm cm M).Rows=(n:Int):=hn
  rw [hR]
  refine BA (fun (s:List AK) i=>(s,i)) 0 n (by omega) (fun i s=>s=(M.take (EQ M i).toNat).filterMap (JE r A B)) (by omega) (by rw [XM (fun t ht=>(hM.inn t ht).1)]; rfl) (fun i s next _ hi hm hnx=>?_) (fun s next hm=>?_)
  · subst hm
    dsimp only
    obtain ⟨lo,hi',sg⟩:=hM.seg i
    have hlo:=sg.lo; have hhi:=sg.hi; have hle:=sg.le; have hlen:=sg.len
    have htk:=xF sg
    rw [show (EQ M i).toNat=lo by omega]
    have hnx':=hnx ((M.take lo).filterMap (JE r A B)++(JL M i).filterMap (JE r A B)) (by rw [show (EQ M (i+1)).toNat=hi' by omega,htk,List.filterMap_append])
    clear hnx
    have hrow:∀ t∈JL M i,t.Row=(i:Int):=fun t ht=>of_decide_eq_true (List.mem_filter.1 ht).2
    have hout:((M.take lo).filterMap (JE r A B)).length≤65536:=by
      have:=List.length_filterMap_le (JE r A B) (M.take lo)
      rw [List.length_take] at this; omega
    have hsl:=MR M i
    refine AB (fun _=>TT hM (by omega) ?_) (fun h=>by omega)
    generalize (M.take lo).filterMap (JE r A B)=out at hnx' hout ⊢
    generalize JL M i=xs at hnx' hrow hsl ⊢
    refine BA (fun (s:List (Int×Bool)) k=>(s,k)) 0 xs.length (by omega) (fun k m=>∀ q (hq:q<xs.length),q<k→BM xs[q].Col m=some true) (by omega) (fun q hq h=>by omega) (fun k m nx _ hk hm hnk=>?_) (fun m nx hm=>?_)
    · dsimp only
      refine AB (fun _=>AM (by omega) (x:=xs[k].Col) (by simp [hk]) (hnk _ fun q hq hqk=>?_)) (fun h=>by simp at h; omega)
      by_cases e:xs[q].Col=xs[k].Col
      · rw [e,BK]
      · rw [BD e]
        refine hm q hq ?_
        by_cases e2:q=k
        · subst e2; exact absurd rfl e
        · omega
    · dsimp only
      refine AB (fun h=>by simp at h) (fun _=>?_)
      refine mW hA hB (by omega) (by omega) hr hvA hvB fun sums hsums=>?_
      refine BA (fun (s:List AK) k=>(s,k)) 0 xs.length (by omega) (fun k s=>s=out++(xs.take k).filterMap (JE r A B)) (by omega) (by simp) (fun k s ny _ hk hm2 hny=>?_) (fun s ny hm2=>?_)
      · subst hm2
        dsimp only
        have hlk:=List.length_filterMap_le (JE r A B) (xs.take k)
        rw [List.length_take] at hlk
        have hask:=hm k hk hk
        have hcur:=hsums.1 xs[k].Col (by simp only [hask]; rfl)
        have hcell:JE r A B xs[k]=(KA r A B i xs[k].Col).map fun w=>⟨(i:Int),xs[k].Col,w⟩:=by
          unfold JE; rw [hrow _ (List.getElem_mem hk)]
        have hstep:(xs.take (k+1)).filterMap (JE r A B)=(xs.take k).filterMap (JE r A B)++(JE r A B xs[k]).toList:=by
          rw [List.take_succ_eq_append_getElem hk,List.filterMap_append]
          congr 1
        refine AB (fun _=>AM (by omega) (x:=xs[k].Col) (by simp [hk]) (XI (fun w hw=>?_) (fun hw=>?_))) (fun h=>by simp at h; omega)
        · refine CD rfl (BE (by simp; omega) (hny _ ?_))
          rw [hstep,hcell,←hcur,hw,List.append_assoc]; rfl
        · refine AR rfl (hny _ ?_)
          rw [hstep,hcell,←hcur,hw]; simp
      · subst hm2
        dsimp only
        rw [List.take_length]
        exact AB (fun h=>by simp at h) (fun _=>hnx')
  · subst hm
    dsimp only
    refine AB (fun h=>by omega) (fun _=>?_)
    have:=ZW hM
    rw [show rm.toNat=n by omega] at this
    rw [this,Int.toNat_natCast,List.take_length]
    exact hQ
end Go.Proofs.YtbohadngdkjljaaGreat
