import Derived.Test.YtbohadngdkjljaaGreatBaseA
namespace Go.Proofs.YtbohadngdkjljaaGreat
open Go Go.Fw
set_option linter.unusedVariables false
set_option linter.unusedSimpArgs false
def okF (f:List Int):Prop:=∀ x∈f,0≤x∧x<18446744073709551616
def MV (f:List Int) (i:Int):Bool:=decide (0≤i) && (FG f (i / 64)).toNat.testBit (i % 64).toNat
theorem lH {f:List Int} {i:Int} (h:(f.length:Int)≤i):FG f i=0:=by
  unfold FG
  rw [List.getD_eq_getElem?_getD,List.getElem?_eq_none (by omega)]; rfl
theorem YL {f:List Int} (h:okF f) (i:Int):0≤FG f i∧FG f i<18446744073709551616:=by
  by_cases e:i.toNat<f.length
  · have:FG f i=f[i.toNat]:=by simp [FG,List.getD_eq_getElem?_getD,e]
    rw [this]; exact h _ (List.getElem_mem e)
  · have:FG f i=0:=by unfold FG; rw [List.getD_eq_getElem?_getD,List.getElem?_eq_none (by omega)]; rfl
    rw [this]; omega
theorem uV {f:List Int} {i:Int} (h:i<0):MV f i=false:=by
  unfold MV; simp [show ¬0≤i by omega]
theorem AiC (i:Int):shr .i64 i 6=i / 64:=by
  unfold shr
  rw [Int.fdiv_eq_ediv_of_nonneg _ (by decide)]; rfl
theorem uW {f:List Int} {i:Int} {Q:Bool→Prop} (D:Q (decide (0≤i∧i / 64<f.length))):RW f i Q:=by
  unfold RW
  rw [AiC]
  refine AB (fun h=>?_) (fun h=>?_)
  · simpa [h] using D
  · simpa [h] using D
theorem AiD (k:Nat):(2:Int) ^ k=((2 ^ k:Nat):Int):=by rw [Int.natCast_pow]; rfl
theorem AhJ {k:Nat} (hk:k<64):(2:Nat) ^ k<18446744073709551616:=Nat.pow_lt_pow_right (n:=64) (a:=2) (by omega) hk
theorem Ag8 {k:Nat} (hk:k<64):shl .u64 1 k=((2 ^ k:Nat):Int):=by
  rw [AdX _ (by omega),Int.one_mul,AiD]
  have hp:=AhJ hk
  generalize 2 ^ k=p at *
  omega
theorem AiE {i:Int} {Q:Int→Prop} (G:0≤i) (h:i<18446744073709551616) (D:Q ((2 ^ (i % 64).toNat:Nat):Int)):ZL i Q:=by
  unfold ZL
  have e:xR .u64 (IntKind.wrap .u64 i) 63=(((i % 64).toNat:Nat):Int):=by
    rw [RA,show i % 18446744073709551616=i by omega,rI G h (by omega) (by omega)]
    congr 1
    rw [show Int.toNat 63=2 ^ 6 - 1 from rfl,Nat.and_two_pow_sub_one_eq_mod]
    omega
  rw [e]
  refine ⟨by omega,?_⟩
  rw [Ag8 (by omega)]; exact D
def LP (n:Int):Nat:=((if 4096<(if n<0 then 0 else n) then 4096 else (if n<0 then 0 else n))+63).toNat / 64
def rJ (n:Int):List Int:=List.replicate (LP n) 0
theorem uX (n:Int):LP n≤64:=by unfold LP; split <;> split <;> omega
theorem lI {n i:Int} (h0:0≤i) (hn:i<n) (h:i<4096):i / 64<LP n:=by unfold LP; split <;> split <;> omega
theorem AbY {n i:Int} (h:i / 64<LP n):i<4096:=by unfold LP at h; split at h <;> split at h <;> omega
theorem Ag9 (n:Int):okF (rJ n):=by intro x h; rw [rJ,List.mem_replicate] at h; omega
theorem AdZ (n i:Int):MV (rJ n) i=false:=by
  have:∀ k,FG (rJ n) k=0:=by
    intro k; unfold FG rJ
    rw [List.getD_eq_getElem?_getD,List.getElem?_replicate]; split <;> rfl
  unfold MV; rw [this]; simp
theorem lJ {n:Int} {Q:Int→Prop} (h:Q (LP n)):VH n Q:=by
  unfold VH
  rw [AiC]
  have e:AJ ((if 4096<(if 0 > n then 0 else n) then 4096 else (if 0 > n then 0 else n))+63) / 64=(LP n:Int):=by
    unfold LP
    rw [GW]
    split <;> split <;> omega
  rw [e]; exact h
theorem rK {n:Int} {Q:List Int→Prop} (h:Q (rJ n)):ZK n Q:=by
  unfold ZK
  refine lJ ⟨by omega,by have:=uX n; omega,?_⟩
  simpa [rJ] using h
def rL (f:List Int) (i:Int):List Int:=if 0≤i∧i / 64<f.length then f.set (i / 64).toNat (((FG f (i / 64)).toNat ||| 2 ^ (i % 64).toNat:Nat):Int) else f
theorem Ae0 (f:List Int) (i:Int):(rL f i).length=f.length:=by unfold rL; split <;> simp
theorem AgA {f:List Int} (h:okF f) (i:Int):okF (rL f i):=by
  unfold rL
  split
  · intro x D
    rcases List.mem_or_eq_of_mem_set D with D | D
    · exact h x D
    · have hb:=YL h (i / 64)
      have hp:(2:Nat) ^ (i % 64).toNat<2 ^ 64:=Nat.pow_lt_pow_right (by omega) (by omega)
      have:=Nat.or_lt_two_pow (x:=(FG f (i / 64)).toNat) (y:=2 ^ (i % 64).toNat) (n:=64) (by omega) hp
      omega
  · exact h
theorem Ae1 {f:List Int} (i j:Int):MV (rL f i) j=if j=i∧0≤i∧i / 64<f.length then true else MV f j:=by
  unfold rL
  by_cases hc:0≤i∧i / 64<f.length
  · rw [if_pos hc]
    rcases Int.lt_or_le j 0 with G | G
    · rw [uV G,if_neg (by omega),uV G]
    · have D:∀ v:Int,FG (f.set (i / 64).toNat v) (j / 64)=if j / 64=i / 64 then v else FG f (j / 64):=by
        intro v
        unfold FG
        rw [List.getD_eq_getElem?_getD,List.getD_eq_getElem?_getD]
        by_cases e:j / 64=i / 64
        · rw [if_pos e,e,List.getElem?_set_self (by omega)]; rfl
        · rw [if_neg e,List.getElem?_set_ne (by omega)]
      unfold MV
      rw [D]
      by_cases e:j / 64=i / 64
      · rw [if_pos e,Int.toNat_natCast,Nat.testBit_or,Nat.testBit_two_pow,e]
        by_cases e2:j=i
        · subst e2; simp [hc,G]
        · have:¬(i % 64).toNat=(j % 64).toNat:=by omega
          simp [e2,this]
      · rw [if_neg e,if_neg (by intro h; exact e (by rw [h.1]))]
  · rw [if_neg hc,if_neg (fun h=>hc h.2)]
def uY (n:Int) (l:List Int):List Int:=l.foldl (fun f i=>if 0≤i∧i<n∧i<4096 then rL f i else f) (rJ n)
theorem uZ (n:Int) (l:List Int) (i:Int):uY n (l++[i])=if 0≤i∧i<n∧i<4096 then rL (uY n l) i else uY n l:=by simp [uY]
theorem vC (n:Int) (l:List Int):okF (uY n l)∧(uY n l).length=LP n∧∀ j,MV (uY n l) j=decide (j∈l∧0≤j∧j<n∧j<4096):=by
  suffices H:∀ k,k≤l.length→okF (uY n (l.take k))∧(uY n (l.take k)).length=LP n∧∀ j,MV (uY n (l.take k)) j=decide (j∈l.take k∧0≤j∧j<n∧j<4096) by
    have:=H l.length (by omega); rwa [List.take_length] at this
  intro k
  induction k with
  | zero=>intro _; exact ⟨Ag9 n,by simp [uY,rJ],fun j=>by simp [uY,AdZ]⟩
  | succ k Y=>
    intro hk
    obtain ⟨U,G,O⟩:=Y (by omega)
    rw [List.take_succ_eq_append_getElem (by omega),uZ]
    split
    · rename_i D
      refine ⟨AgA U _,by rw [Ae0,G],fun j=>?_⟩
      rw [Ae1,G,O]
      have V:=lI D.1 D.2.1 D.2.2
      by_cases e:j=l[k]
      · subst e
        rw [if_pos ⟨rfl,D.1,V⟩]
        exact (decide_eq_true ⟨List.mem_append.2 (.inr (by simp)),D⟩).symm
      · rw [if_neg (fun h=>e h.1)]
        refine decide_eq_decide.2 ?_
        rw [List.mem_append,List.mem_singleton]
        simp only [e,or_false]
    · rename_i D
      refine ⟨U,G,fun j=>?_⟩
      rw [O]
      refine decide_eq_decide.2 ?_
      rw [List.mem_append,List.mem_singleton]
      by_cases e:j=l[k]
      · subst e
        constructor
        · rintro ⟨W,J⟩; exact ⟨.inl W,J⟩
        · rintro ⟨_,J⟩; exact absurd J D
      · simp only [e,or_false]
theorem vD {n:Int} {l:List Int} {Q:List Int→Prop} (hl:l.length≤1000000000) (hi:∀ x∈l,FL x) (Y:Q (uY n l)):cZ n l Q:=by
  unfold cZ
  refine rK (AV (fun (s:List Int) i=>(s,i)) 0 l.length (by omega) (fun k s=>s=uY n (l.take k)) (by omega) (by simp [uY]) (fun k s next _ hk U V=>?_) (fun s next U=>?_))
  · subst U
    have D:=uZ n (l.take k) l[k]
    rw [←List.take_succ_eq_append_getElem hk] at D
    obtain ⟨Z,p2,_⟩:=vC n (l.take k)
    have O:=hi _ (List.getElem_mem hk)
    unfold FL at O
    refine AB (fun _=>AW hk ?_) (fun h=>by omega)
    refine DP (fun b=>b=decide (l[k]<n∧0≤l[k]∧l[k] / 64<LP n)) ?_ ?_
    · rintro b rfl
      refine AB (fun h=>?_) (fun h=>V _ ?_)
      · rw [AiC]
        refine EF (by omega) (by rw [p2]; omega) (AiE h.2.1 (by omega) (EF (by omega) (by rw [p2]; omega) (V _ ?_)))
        have W:=YL Z (l[k] / 64)
        have hp:=AhJ (k:=(l[k] % 64).toNat) (by omega)
        rw [D,if_pos ⟨h.2.1,h.1,AbY h.2.2⟩,rL,if_pos ⟨h.2.1,by rw [p2]; exact h.2.2⟩,Ab1 W.1 W.2 (Int.natCast_nonneg _) (by generalize 2 ^ (l[k] % 64).toNat=p at *; omega),Int.toNat_natCast]
      · rw [D,if_neg]
        intro G
        exact h ⟨G.2.1,G.1,lI G.1 G.2.1 G.2.2⟩
    · intro k' J
      refine AB (fun h=>uW (J _ ?_)) (fun h=>J _ ?_)
      · rw [p2]; simp [h]
      · simp [h]
  · subst U
    refine AB (fun h=>by omega) (fun _=>?_)
    rw [List.take_length]; exact Y
def vE (f:List Int):List Int:=((List.range (64*f.length)).filter fun i:Nat=>MV f i).map fun i:Nat=>(i:Int)
def IncI (l:List EC):Prop:=l.Pairwise fun a b=>a.At<b.At
instance (l:List EC):Decidable (IncI l):=by unfold IncI; infer_instance
structure AkD (v:Vec):Prop where
  n0:0≤v.N
  n1:v.N≤4096
  inc:IncI v.Items
  ins:∀ x∈v.Items,0≤x.At∧x.At<v.N
instance (v:Vec):Decidable (AkD v):=decidable_of_iff (0≤v.N∧v.N≤4096∧IncI v.Items∧∀ x∈v.Items,0≤x.At∧x.At<v.N) ⟨fun ⟨a,b,c,d⟩=>⟨a,b,c,d⟩,fun ⟨a,b,c,d⟩=>⟨a,b,c,d⟩⟩
theorem IncI.at {l:List EC} (h:IncI l) {i j:Nat} (G:j<l.length) (D:i<j):(l[i]'(by omega)).At<l[j].At:=by
  unfold IncI at h; rw [List.pairwise_iff_getElem] at h; exact h i j (by omega) G D
def kvI (x:EC):Int×Int:=(x.At,x.Val)
def XS (l:List EC) (i:Int):Option Int:=BN i (l.map kvI)
theorem QU (s:EC) (l:List EC) (i:Int):XS (s :: l) i=if i=s.At then some s.Val else XS l i:=rfl
theorem dP:∀ {l:List EC} {i:Int},(∀ s∈l,s.At≠i)→XS l i=none
  | [],_,_=>rfl
  | s :: l,i,h=>by rw [QU,if_neg (fun e=>h s (by simp) e.symm)]; exact dP fun x D=>h x (by simp [D])
theorem Ab2:∀ {l:List EC} {i:Int} {v:Int},XS l i=some v→⟨i,v⟩∈l
  | s :: l,i,v,h=>by
    rw [QU] at h
    split at h
    · rename_i e; cases h; subst e; simp
    · exact List.mem_cons_of_mem _ (Ab2 h)
theorem Ab3:∀ {l:List EC} (h:IncI l) {s:EC},s∈l→XS l s.At=some s.Val
  | x :: l,h,s,hs=>by
    unfold IncI at h
    rw [List.pairwise_cons] at h
    rw [QU]
    rcases List.mem_cons.1 hs with e | hs
    · subst e; rw [if_pos rfl]
    · have:=h.1 s hs
      rw [if_neg (by omega)]; exact Ab3 h.2 hs
theorem UD:∀ (l:List EC) (m:List EC) (i:Int),XS (l++m) i=match XS l i with | some v=>some v | none=>XS m i
  | [],m,i=>rfl
  | s :: l,m,i=>by
    rw [List.cons_append,QU,QU]
    split
    · rfl
    · exact UD l m i
def AkE (o:Option Int):Int×Bool:=match o with | some v=>(v,true) | none=>(0,false)
def iB (r:Int) (A B:Int→Option Int) (h:Option AN) (k:Int):Option AN:=match A k,B k with | some a,some x=>jP r h (some (lG r a x)) | _,_=>h
def YM (r:Int) (n:Nat) (A B:Int→Option Int):Option AN:=(List.range n).foldl (fun h (k:Nat)=>iB r A B h k) none
theorem AbZ {r:Int} {A B:Int→Option Int} {D:Option AN} (h:∀ w,D=some w→NH w) (k:Int):∀ w,iB r A B D k=some w→NH w:=by
  intro w G
  unfold iB at G
  split at G
  · cases D with
    | none=>cases G; exact QT _ _ _
    | some b=>cases G; exact TZ (h b rfl) (QT _ _ _)
  · exact h w G
theorem vF (r:Int) (n:Nat) (A B:Int→Option Int):∀ w,YM r n A B=some w→NH w:=by
  unfold YM
  induction n with
  | zero=>intro w h; cases h
  | succ n D=>rw [List.range_succ,List.foldl_append]; exact AbZ D n
theorem X8 {β γ:Type} {f g:β→γ→β}:∀ {l:List γ} {a:β},(∀ D k,k∈l→f D k=g D k)→l.foldl f a=l.foldl g a
  | [],_,_=>rfl
  | x :: l,a,h=>by rw [List.foldl_cons,List.foldl_cons,h a x (by simp)]; exact X8 fun D k hk=>h D k (by simp [hk])
theorem dQ {β:Type} {step:β→Int→Int→β} {a:β}:∀ {n:Nat} {l:List EC},IncI l→(∀ x∈l,0≤x.At∧x.At<n) →
    l.foldl (fun G x=>step G x.At x.Val) a=(List.range n).foldl (fun G (k:Nat)=>match XS l k with | some v=>step G k v | none=>G) a
  | 0,l,h,hi=>by
    cases l with
    | nil=>rfl
    | cons x l=>have:=hi x (by simp); omega
  | n+1,l,h,hi=>by
    rw [List.range_succ,List.foldl_append]
    simp only [List.foldl_cons,List.foldl_nil]
    have V:l=[]∨∃ p y,l=p++[y]:=by
      rcases List.eq_nil_or_concat l with h | ⟨p,y,h⟩
      · exact .inl h
      · exact .inr ⟨p,y,by rw [h,List.concat_eq_append]⟩
    have old:∀ {l:List EC},IncI l→(∀ x∈l,0≤x.At∧x.At<n)→XS l n=none:=fun _ hi=>dP fun s Y=>by have:=hi s Y; omega
    rcases V with e | ⟨p,y,e⟩
    · subst e
      rw [←dQ (n:=n) (l:=[]) h (by simp)]; rfl
    · subst e
      have hp:IncI p:=(List.pairwise_append.1 h).1
      have O:∀ x∈p,x.At<y.At:=fun x D=>(List.pairwise_append.1 h).2.2 x D y (by simp)
      by_cases ey:y.At=n
      · have J:∀ x∈p,0≤x.At∧x.At<n:=fun x D=>⟨(hi x (by simp [D])).1,by have:=O x D; omega⟩
        have Z:XS (p++[y]) n=some y.Val:=by rw [UD,old hp J,QU,if_pos ey.symm]
        rw [Z,List.foldl_append,dQ hp J]
        simp only [List.foldl_cons,List.foldl_nil,ey]
        congr 1
        refine X8 fun G k hk=>?_
        have hk:=List.mem_range.1 hk
        have:XS (p++[y]) k=XS p k:=by rw [UD,QU,if_neg (by omega)]; cases XS p k <;> rfl
        rw [this]
      · have U:∀ x∈p++[y],0≤x.At∧x.At<n:=by
          intro x D
          have W:=hi x D
          refine ⟨W.1,?_⟩
          have hy:=hi y (by simp)
          rcases List.mem_append.1 D with D | D
          · have:=O x D; omega
          · simp only [List.mem_singleton] at D; subst D; omega
        rw [old h U,dQ h U]
def WK (r:Int) (B:Int→Option Int) (h:Option AN) (y:EC):Option AN:=match B y.At with | some x=>jP r h (some (lG r y.Val x)) | none=>h
theorem Ac0 {r:Int} {B:Int→Option Int} {D:Option AN} (h:∀ w,D=some w→NH w) (y:EC):∀ w,WK r B D y=some w→NH w:=by
  intro w G
  unfold WK at G
  split at G
  · cases D with
    | none=>cases G; exact QT _ _ _
    | some b=>cases G; exact TZ (h b rfl) (QT _ _ _)
  · exact h w G
theorem pE (r:Int) (B:Int→Option Int):∀ (l:List EC) (D:Option AN),(∀ w,D=some w→NH w)→∀ w,l.foldl (WK r B) D=some w→NH w
  | [],D,h=>h
  | y :: l,D,h=>pE r B l _ (Ac0 h y)
theorem Ae2 {r:Int} {B:Int→Option Int} {n:Nat} {l:List EC} (h:IncI l) (hi:∀ x∈l,0≤x.At∧x.At<n):l.foldl (WK r B) none=YM r n (XS l) B:=by
  have:=dQ (step:=fun D k a=>match B k with | some x=>jP r D (some (lG r a x)) | none=>D) (a:=none) h hi
  refine this.trans (X8 fun D k _=>?_)
  unfold iB
  cases XS l (k:Int) <;> cases B (k:Int) <;> rfl
def fJ (h:List AD) (i:Int):List EC:=(LC h i.toNat).map XM
def zS (r:Int):Int:=if r=1∨r=3∨r=4 then 4611686018427387904 else 0
theorem dR {r:Int} {Q:Int→Prop} (D:Q (zS r)):SP r Q:=by
  unfold SP; unfold zS at D
  refine CC (fun h=>?_) (fun h=>CC (fun G=>?_) (fun G=>CC (fun J=>?_) (fun J=>?_)))
  · rwa [if_pos (.inl h)] at D
  · rwa [if_pos (.inr (.inl G))] at D
  · rwa [if_pos (.inr (.inr J))] at D
  · rwa [if_neg (by omega)] at D
theorem AgB {x:Int} (D:0≤x) (h:x<18446744073709551616):xR .u64 x 1=x % 2:=by
  rw [rI D h (by omega) (by omega),show Int.toNat 1=1 from rfl,Nat.and_one_is_mod]; omega
theorem AgC (x:Int):shr .u64 x 1=x / 2:=AhI 1 (by omega)
theorem Ae3 {f:List Int} (G:okF f) {i j:Nat} (hj:j<64) {w:Int} (D:w=FG f i / 2 ^ j):(MV f (64*i+j)=true↔w % 2=1):=by
  have h:=YL G i
  unfold MV
  rw [show (64*(i:Int)+j) / 64=i by omega,show ((64*(i:Int)+j) % 64).toNat=j by omega]
  rw [Nat.testBit_eq_decide_div_mod_eq]
  have e:w=(((FG f i).toNat / 2 ^ j:Nat):Int):=by
    rw [D,Int.natCast_ediv,Int.natCast_pow,Int.toNat_of_nonneg h.1]; rfl
  rw [e]
  simp only [show decide ((0:Int)≤64*i+j)=true by simp; omega,Bool.true_and,decide_eq_true_eq]
  omega
theorem Ac1 {f:List Int} (V:okF f) {i j k:Nat} (D:j≤k) (hk:k<64) {w:Int} (O:w=FG f i / 2 ^ j) (h0:w=0):MV f (64*i+k)=false:=by
  have U:=YL V i
  unfold MV
  rw [show (64*(i:Int)+k) / 64=i by omega,show ((64*(i:Int)+k) % 64).toNat=k by omega]
  have e:w=(((FG f i).toNat / 2 ^ j:Nat):Int):=by
    rw [O,Int.natCast_ediv,Int.natCast_pow,Int.toNat_of_nonneg U.1]; rfl
  have G:(FG f i).toNat<2 ^ j:=by
    have J:(FG f i).toNat / 2 ^ j=0:=by omega
    rcases Nat.div_eq_zero_iff.1 J with h | h
    · exact absurd h (Nat.ne_of_gt (Nat.pow_pos (by omega)))
    · exact h
  rw [Nat.testBit_lt_two_pow (Nat.lt_of_lt_of_le G (Nat.pow_le_pow_right (by omega) D))]
  simp
theorem pF {f:List Int} {i j:Nat} {w:Int} (h:w=FG f i / 2 ^ j):w / 2=FG f i / 2 ^ (j+1):=by
  rw [h,Int.ediv_ediv_of_nonneg (by exact Int.le_of_lt (Int.pow_pos (by omega))),Int.pow_succ]
theorem Ac2 (a b:AN):SS a b∨SS b a:=by unfold SS; omega
theorem Ae4 {a b:AN} (h:SS a b) (h':SS b a):a=b:=by unfold SS at *; exact LY (by omega) (by omega)
theorem Ac3 {a b c:AN} (h:SS a b) (h':SS b c):SS a c:=by unfold SS at *; omega
def iR (a b:AN):AN:=if SS a b then a else b
theorem Ac4 (a b:AN):iR a b=iR b a:=by
  unfold iR
  by_cases h:SS a b <;> by_cases h':SS b a
  · rw [if_pos h,if_pos h']; exact Ae4 h h'
  · rw [if_pos h,if_neg h']
  · rw [if_neg h,if_pos h']
  · rcases Ac2 a b with e | e
    · exact absurd e h
    · exact absurd e h'
theorem yS (a b c:AN):iR (iR a b) c=iR a (iR b c):=by
  unfold iR
  by_cases h1:SS a b <;> by_cases h2:SS b c <;> by_cases h3:SS a c <;> simp only [h1,h2,h3,if_true,if_false]
  · exact absurd (Ac3 h1 h2) h3
  · exfalso; unfold SS at *; omega
theorem Ac5 {r:Int} {a b:AN} (G:NH a) (D:NH b):EK r a b=EK r b a:=by
  by_cases h:r=1∨r=3∨r=4
  · have e:∀ a b,EK r a b=iR a b:=fun a b=>by unfold EK iR; rw [if_pos h]
    rw [e,e]; exact Ac4 a b
  · by_cases h2:r=2
    · unfold EK
      rw [if_neg h,if_pos h2,if_neg h,if_pos h2]
      by_cases e1:a=⟨0,0⟩ <;> by_cases e2:b=⟨0,0⟩ <;> simp [e1,e2]
    · by_cases h5:r=5
      · subst h5
        rw [dO G,dO D,SA,SA,Int.add_comm]
      · unfold EK; rw [if_neg h,if_neg h2,if_neg h5,if_neg h,if_neg h2,if_neg h5]
theorem yT {r:Int} {a b c:AN} (J:NH a) (G:NH b) (D:NH c):EK r (EK r a b) c=EK r a (EK r b c):=by
  by_cases h:r=1∨r=3∨r=4
  · have e:∀ a b,EK r a b=iR a b:=fun a b=>by unfold EK iR; rw [if_pos h]
    simp only [e]; exact yS a b c
  · by_cases h2:r=2
    · have e:∀ a b,EK r a b=if a=⟨0,0⟩∧b=⟨0,0⟩ then ⟨0,0⟩ else ⟨0,1⟩:=fun a b=>by unfold EK; rw [if_neg h,if_pos h2]
      have n1:(⟨0,1⟩:AN)≠⟨0,0⟩:=by decide
      simp only [e]
      by_cases e1:a=⟨0,0⟩ <;> by_cases e2:b=⟨0,0⟩ <;> by_cases e3:c=⟨0,0⟩ <;> simp [e1,e2,e3]
    · by_cases h5:r=5
      · subst h5
        rw [dO J,dO G,dO D,SA,SA,SA,SA,Int.add_assoc]
      · unfold EK
        simp only [if_neg h,if_neg h2,if_neg h5]
def okO (o:Option AN):Prop:=∀ w,o=some w→NH w
theorem Ae5 {r:Int} {a b:Option AN} (D:okO a) (h:okO b):jP r a b=jP r b a:=by
  cases a with
  | none=>cases b <;> rfl
  | some x=>cases b with
    | none=>rfl
    | some y=>simp only [jP]; rw [Ac5 (D x rfl) (h y rfl)]
theorem WL {r:Int} {a b c:Option AN} (h:okO a) (G:okO b) (D:okO c):jP r (jP r a b) c=jP r a (jP r b c):=by
  cases a with
  | none=>cases b <;> rfl
  | some x=>cases b with
    | none=>cases c <;> rfl
    | some y=>cases c with
      | none=>rfl
      | some z=>simp only [jP]; rw [yT (h x rfl) (G y rfl) (D z rfl)]
theorem fK (r:Int) (n:Nat) (A B:Int→Option Int):YM r (n+1) A B=iB r A B (YM r n A B) n:=by
  unfold YM; rw [List.range_succ,List.foldl_append]; rfl
theorem vG (r:Int) (k:Nat) (A B:Int→Option Int):∀ m:Nat,YM r (k+m) A B=jP r (YM r k A B) (YM r m (fun j=>A (j+k)) (fun j=>B (j+k)))
  | 0=>by rw [Nat.add_zero,show YM r 0 (fun j=>A (j+k)) (fun j=>B (j+k))=none from rfl,OE]
  | m+1=>by
    rw [←Nat.add_assoc,fK,fK,vG r k A B m]
    have ho:=vF r m (fun j=>A (j+k)) (fun j=>B (j+k))
    generalize YM r m (fun j=>A (j+k)) (fun j=>B (j+k))=o at ho ⊢
    unfold iB
    rw [show (((k+m:Nat):Int))=(m:Int)+k by omega]
    simp only
    cases hA:A ((m:Int)+k) with
    | none=>rfl
    | some a=>cases hB:B ((m:Int)+k) with
      | none=>rfl
      | some x=>
        have D:okO (some (lG r a x)):=fun w h=>by
          have:=Option.some.inj h
          subst this; exact QT _ _ _
        exact WL (vF r k A B) ho D
theorem bM {r:Int} {n:Nat} {A h B D:Int→Option Int} (J:∀ j:Nat,j<n→A j=h j) (O:∀ j:Nat,j<n→B j=D j):YM r n A B=YM r n h D:=by
  unfold YM
  refine X8 fun G k hk=>?_
  have hk:=List.mem_range.1 hk
  unfold iB
  rw [J k hk,O k hk]
theorem AgD {l:List EC} (h:IncI l) {i a:Int}:XS l i=some a↔(⟨i,a⟩:EC)∈l:=⟨Ab2,fun D=>Ab3 h D⟩
theorem AgE {x y:Option Int} (h:∀ a,x=some a↔y=some a):x=y:=by
  cases x with
  | none=>cases y with
    | none=>rfl
    | some b=>have:=(h b).2 rfl; cases this
  | some a=>exact ((h a).1 rfl).symm
def yU (B:List AD) (c:Int) (k:Int):Option Int:=XS (fJ B k) c
def NB (r:Int) (A B:List AD) (i c:Int):Option AN:=(fJ A i).foldl (WK r (yU B c)) none
def IA (r:Int) (A B:List AD) (t:AD):Option AM:=(NB r A B t.Row t.Col).map fun w=>⟨t.Row,t.Col,w⟩
def FS (r:Int) (A B M:List AD):List AM:=M.filterMap (IA r A B)
theorem X9 {D G:Int} {J:List AD} {i:Nat} {Q:List Int×List Int→Prop} (h:Canon D G J) (hi:(i:Int)<D) (O:Q ((LC J i).map (·.Col),(LC J i).map (·.Val))):SO (BM D G J) i Q:=by
  unfold SO
  have hr:=h.r1
  obtain ⟨lo,U,s⟩:=h.seg i
  have V:AJ ((i:Int)+1)=(i+1:Nat):=by rw [BE (by omega) (by omega)]; omega
  rw [V]
  refine ZO (by omega) (ZO (by omega) ?_)
  rw [s.lo,s.hi]
  have h1:=s.le; have h2:=s.len
  have hc:(BM D G J).Col.length=J.length:=by simp [BM]
  have hv:(BM D G J).Val.length=J.length:=by simp [BM]
  refine ⟨by omega,by omega,by omega,by omega,by omega,by omega,?_⟩
  simp only [Int.toNat_natCast,BM,←List.map_take,←List.map_drop,s.eq]
  exact O
theorem rM {l:List Rows} {Q:List Rows→Prop} (hl:l.length≤100) (h:∀ a∈l,small a∧X4 a) (O:Q l):ZI l Q:=by
  unfold ZI
  refine AV (fun (s:List Rows) i=>(s,i)) 0 l.length (by omega) (fun i s=>s=l.take i) (by omega) rfl (fun i s next _ hi D J=>?_) (fun s next D=>?_)
  · subst D
    have G:=h _ (List.getElem_mem hi)
    refine AB (fun _=>AW hi (dM G.1 ?_)) (fun h=>by omega)
    rw [decide_eq_true G.2]
    refine AO rfl (BA (by simp; omega) (J _ ?_))
    rw [List.take_succ_eq_append_getElem hi]
  · subst D
    rw [List.take_length]
    exact AB (fun h=>by omega) (fun _=>O)
theorem rN {G:List AD} (h:Srt G) (i:Nat):IncI ((LC G i).map XM):=by
  unfold IncI LC
  rw [List.pairwise_map]
  refine List.Pairwise.imp_of_mem ?_ (List.Pairwise.filter _ h)
  intro a b J O D
  have h1:=of_decide_eq_true (List.mem_filter.1 J).2
  have h2:=of_decide_eq_true (List.mem_filter.1 O).2
  unfold NK key at D
  simp only [XM]
  simp only at D
  omega
def Ae6 (m:List (Int×AN)) (h:Int→Bool) (f:Int→Option AN):Prop:=(∀ c,h c=true→BN c m=f c)∧∀ c w,BN c m=some w→NH w
theorem AiF {l:List (Int×Bool)} {k:Int} {C:Bool→Prop} (h:C ((BN k l).getD false)):lkP l k false C:=KU h
theorem vH {r ra ca rb cb:Int} {A B:List AD} {G:List (Int×Bool)} {i:Nat} {Q:List (Int×AN)→Prop} (hA:Canon ra ca A) (hB:Canon rb cb B) (hab:ca≤rb) (hi:(i:Int)<ra) (hr:1≤r∧r≤5) (hvA:∀ t∈A,FL t.Val) (hvB:∀ t∈B,FL t.Val)
    (hQ:∀ m,Ae6 m (fun c=>(BN c G).getD false) (NB r A B i)→Q m):RV G r (BM ra ca A) (BM rb cb B) i Q:=by
  unfold RV
  refine X9 hA hi ?_
  have hsl:=UB A i
  have hAl:=hA.len
  have hBl:=hB.len
  have Y:∀ t∈LC A i,(0≤t.Col∧t.Col<ca)∧FL t.Val:=fun t ht=>by
    have hm:=(List.mem_filter.1 ht).1
    have:=hA.inn t hm
    unfold ZZ at this
    exact ⟨⟨this.2.2.1,this.2.2.2⟩,hvA t hm⟩
  unfold NB at hQ
  rw [show fJ A (i:Int)=(LC A i).map XM from rfl] at hQ
  generalize LC A i=xs at hQ hsl Y
  refine AV (fun (s:List (Int×AN)) k=>(s,k)) 0 xs.length (by omega) (fun k m=>Ae6 m (fun c=>(BN c G).getD false) fun c=>((xs.take k).map XM).foldl (WK r (yU B c)) none) (by omega) ⟨fun c _=>rfl,fun c w h=>by simp [BN] at h⟩ (fun k m next _ hk hm hn=>?_) (fun m next hm=>?_)
  · dsimp only
    have hx:=Y _ (List.getElem_mem hk)
    refine AB (fun _=>AP (by omega) (x:=xs[k].Col) (by simp [hk]) ?_) (fun h=>by simp at h; omega)
    obtain ⟨c0,hc0⟩:∃ c0:Nat,xs[k].Col=(c0:Int):=⟨xs[k].Col.toNat,by omega⟩
    rw [hc0]
    refine X9 hB (by omega) ?_
    have hinc:=rN hB.srt c0
    have hsl2:=UB B c0
    have J:∀ t∈LC B c0,FL t.Val:=fun t ht=>hvB t (List.mem_filter.1 ht).1
    have W:∀ c,yU B c xs[k].Col=XS ((LC B c0).map XM) c:=fun c=>by unfold yU fJ; rw [hc0]; rfl
    generalize LC B c0=ys at hinc hsl2 J W
    -- how it is behind so many of the row's items
    let F:Nat→Int→Option AN:=fun j c=>match XS ((ys.take j).map XM) c with
      | some b=>jP r (((xs.take k).map XM).foldl (WK r (yU B c)) none) (some (lG r xs[k].Val b))
      | none=>((xs.take k).map XM).foldl (WK r (yU B c)) none
    have hF0:F 0=fun c=>((xs.take k).map XM).foldl (WK r (yU B c)) none:=rfl
    refine AV (fun (s:List (Int×AN)) j=>(s,j)) 0 ys.length (by omega) (fun j m=>Ae6 m (fun c=>(BN c G).getD false) (F j)) (by omega) (by rw [hF0]; exact hm) (fun j m' nx _ hj D hnx=>?_) (fun m' nx D=>?_)
    · dsimp only
      have htk:(ys.take (j+1)).map XM=(ys.take j).map XM++[XM ys[j]]:=EQ hj
      have hFs:∀ c,F (j+1) c=if c=ys[j].Col then F (j+1) c else F j c:=fun c=>by
        by_cases e:c=ys[j].Col
        · rw [if_pos e]
        · rw [if_neg e]
          have:XS ((ys.take (j+1)).map XM) c=XS ((ys.take j).map XM) c:=by
            rw [htk,UD]
            have h0:XS [XM ys[j]] c=none:=dP fun s hs=>by simp only [List.mem_singleton] at hs; subst hs; exact fun h=>e h.symm
            rw [h0]; split <;> simp_all
          show (match XS ((ys.take (j+1)).map XM) c with | some b=>_ | none=>_)=_
          rw [this]
      have Z:XS ((ys.take j).map XM) ys[j].Col=none:=dP fun s hs=>by
        obtain ⟨t,ht,rfl⟩:=List.mem_map.1 hs
        obtain ⟨q,hq,rfl⟩:=List.getElem_of_mem ht
        rw [List.length_take] at hq
        rw [List.getElem_take]
        have hlen:(ys.map XM).length=ys.length:=by simp
        have:=hinc.at (i:=q) (j:=j) (by omega) (by omega)
        simp only [List.getElem_map] at this
        intro h
        simp only [XM] at this h
        omega
      have hold:F j ys[j].Col=((xs.take k).map XM).foldl (WK r (yU B ys[j].Col)) none:=by
        show (match XS ((ys.take j).map XM) ys[j].Col with | some b=>_ | none=>_)=_
        rw [Z]
      have hhit:F (j+1) ys[j].Col=jP r (F j ys[j].Col) (some (lG r xs[k].Val ys[j].Val)):=by
        rw [hold]
        have:XS ((ys.take (j+1)).map XM) ys[j].Col=some ys[j].Val:=by rw [htk,UD,Z]; simp [QU,XM]
        show (match XS ((ys.take (j+1)).map XM) ys[j].Col with | some b=>_ | none=>_)=_
        rw [this]
      have hy:=J _ (List.getElem_mem hj)
      refine AB (fun _=>AP (by omega) (x:=ys[j].Col) (by simp [hj]) (AiF ?_)) (fun h=>by simp at h; omega)
      cases ha:(BN ys[j].Col G).getD false with
      | false=>
        refine AX rfl (hnx _ ⟨fun c O=>?_,D.2⟩)
        rw [hFs,if_neg (fun e=>by subst e; simp only at O; rw [ha] at O; cases O)]
        exact D.1 c O
      | true=>
        have V:=D.1 ys[j].Col ha
        refine AO rfl (AP (by omega) (x:=xs[k].Val) (by simp [hk]) (AP (by omega) (x:=ys[j].Val) (by simp [hj]) (uU hx.2 hy (WX (fun w hw=>?_) (fun hw=>?_)))))
        · refine AX rfl (QR (D.2 _ _ hw) (QT _ _ _) (hnx _ ⟨fun c O=>?_,fun c u U=>?_⟩))
          · by_cases e:c=ys[j].Col
            · subst e; rw [BO,hhit,←V,hw]; rfl
            · rw [BK e,hFs,if_neg e]; exact D.1 c O
          · by_cases e:c=ys[j].Col
            · subst e; rw [BO] at U; cases U; exact TZ (D.2 _ _ hw) (QT _ _ _)
            · rw [BK e] at U; exact D.2 c u U
        · refine AO rfl (hnx _ ⟨fun c O=>?_,fun c u U=>?_⟩)
          · by_cases e:c=ys[j].Col
            · subst e; rw [BO,hhit,←V,hw]; rfl
            · rw [BK e,hFs,if_neg e]; exact D.1 c O
          · by_cases e:c=ys[j].Col
            · subst e; rw [BO] at U; cases U; exact QT _ _ _
            · rw [BK e] at U; exact D.2 c u U
    · dsimp only
      refine AB (fun h=>by simp at h) (fun _=>hn _ ⟨fun c O=>?_,D.2⟩)
      rw [D.1 c O,EQ hk]
      show F ys.length c=List.foldl (WK r (yU B c)) none ((xs.take k).map XM++[XM xs[k]])
      rw [List.foldl_append]
      show (match XS ((ys.take ys.length).map XM) c with | some b=>_ | none=>_)=WK r (yU B c) _ (XM xs[k])
      rw [List.take_length,←W c]
      unfold WK
      simp only [XM]
      all_goals (split <;> simp_all)
  · dsimp only
    rw [List.take_length] at hm
    exact AB (fun h=>by simp at h) (fun _=>hQ m hm)
def yV (r ra ca rb cb h cm:Int) (A B M:List AD):List AM×Int:=
  if ¬(1≤r∧r≤5) then ([],8) else if ca≠rb∨h≠ra∨cm≠cb then ([],4) else (FS r A B M,0)
theorem Ac6 (r:Int) (A B M:List AD):(FS r A B M).length≤M.length:=List.length_filterMap_le _ _
theorem Ae7 {T:List AD} {i lo hi:Nat} (s:Seg T i lo hi):T.take hi=T.take lo++LC T i:=by
  have h:=List.take_append_drop lo (T.take hi)
  rw [s.eq,List.take_take,Nat.min_eq_left s.le] at h
  exact h.symm
theorem nO {r ra ca rb cb U cm:Int} {A B M:List AD} {Q:List AM×Int→Prop} (hA:Canon ra ca A) (hB:Canon rb cb B) (O:Canon U cm M) (hvA:∀ t∈A,FL t.Val) (hvB:∀ t∈B,FL t.Val)
    (hQ:Q (yV r ra ca rb cb U cm A B M)):TN r (BM ra ca A) (BM rb cb B) (BM U cm M) Q:=by
  unfold TN
  refine rM (by simp) (fun a ha=>?_) (AP (by omega) rfl (AP (by omega) rfl (AP (by omega) rfl (KQ ?_))))
  · simp only [List.mem_cons,List.not_mem_nil,or_false] at ha
    rcases ha with rfl | rfl | rfl
    · exact ⟨hA.sml,hA.right⟩
    · exact ⟨hB.sml,hB.right⟩
    · exact ⟨O.sml,O.right⟩
  unfold yV at hQ
  refine CP (fun h=>?_) (fun h=>?_)
  · rwa [if_pos (of_decide_eq_false h)] at hQ
  have hr:=of_decide_eq_true h
  rw [if_neg (fun h=>h hr)] at hQ
  have hbad (hb:ca≠rb∨U≠ra∨cm≠cb):Q ([],4):=by rwa [if_pos hb] at hQ
  refine FF (fun h=>hbad (.inl h)) (fun h1=>FF (fun h=>hbad (.inr (.inl h))) (fun h2=>FF (fun h=>hbad (.inr (.inr h))) (fun h3=>?_)))
  have h1:ca=rb:=h1
  have h2:U=ra:=h2
  have h3:cm=cb:=h3
  rw [if_neg (by omega)] at hQ
  have hrm:=O.r0; have hrm1:=O.r1; have hMl:=O.len
  obtain ⟨n,hn⟩:∃ n:Nat,U=(n:Int):=⟨U.toNat,by omega⟩
  have hR:(BM U cm M).Rows=(n:Int):=hn
  rw [hR]
  refine AV (fun (s:List AM) i=>(s,i)) 0 n (by omega) (fun i s=>s=(M.take (FJ M i).toNat).filterMap (IA r A B)) (by omega) (by rw [bL (fun t ht=>(O.inn t ht).1)]; rfl) (fun i s next _ hi hm hnx=>?_) (fun s next hm=>?_)
  · subst hm
    dsimp only
    obtain ⟨lo,hi',sg⟩:=O.seg i
    have hlo:=sg.lo; have hhi:=sg.hi; have hle:=sg.le; have hlen:=sg.len
    have htk:=Ae7 sg
    rw [show (FJ M i).toNat=lo by omega]
    have G:=hnx ((M.take lo).filterMap (IA r A B)++(LC M i).filterMap (IA r A B)) (by rw [show (FJ M (i+1)).toNat=hi' by omega,htk,List.filterMap_append])
    clear hnx
    have W:∀ t∈LC M i,t.Row=(i:Int):=fun t ht=>of_decide_eq_true (List.mem_filter.1 ht).2
    have hout:((M.take lo).filterMap (IA r A B)).length≤65536:=by
      have:=List.length_filterMap_le (IA r A B) (M.take lo)
      rw [List.length_take] at this; omega
    have hsl:=UB M i
    refine AB (fun _=>X9 O (by omega) ?_) (fun h=>by omega)
    generalize (M.take lo).filterMap (IA r A B)=out at G hout ⊢
    generalize LC M i=xs at G W hsl ⊢
    refine AV (fun (s:List (Int×Bool)) k=>(s,k)) 0 xs.length (by omega) (fun k m=>∀ q (hq:q<xs.length),q<k→BN xs[q].Col m=some true) (by omega) (fun q hq h=>by omega) (fun k m nx _ hk hm hnk=>?_) (fun m nx hm=>?_)
    · dsimp only
      refine AB (fun _=>AP (by omega) (x:=xs[k].Col) (by simp [hk]) (hnk _ fun q hq hqk=>?_)) (fun h=>by simp at h; omega)
      by_cases e:xs[q].Col=xs[k].Col
      · rw [e,BO]
      · rw [BK e]
        refine hm q hq ?_
        by_cases e2:q=k
        · subst e2; exact absurd rfl e
        · omega
    · dsimp only
      refine AB (fun h=>by simp at h) (fun _=>?_)
      refine vH hA hB (by omega) (by omega) hr hvA hvB fun sums Z=>?_
      refine AV (fun (s:List AM) k=>(s,k)) 0 xs.length (by omega) (fun k s=>s=out++(xs.take k).filterMap (IA r A B)) (by omega) (by simp) (fun k s ny _ hk Y hny=>?_) (fun s ny Y=>?_)
      · subst Y
        dsimp only
        have hlk:=List.length_filterMap_le (IA r A B) (xs.take k)
        rw [List.length_take] at hlk
        have hask:=hm k hk hk
        have V:=Z.1 xs[k].Col (by simp only [hask]; rfl)
        have D:IA r A B xs[k]=(NB r A B i xs[k].Col).map fun w=>⟨(i:Int),xs[k].Col,w⟩:=by
          unfold IA; rw [W _ (List.getElem_mem hk)]
        have J:(xs.take (k+1)).filterMap (IA r A B)=(xs.take k).filterMap (IA r A B)++(IA r A B xs[k]).toList:=by
          rw [List.take_succ_eq_append_getElem hk,List.filterMap_append]
          congr 1
        refine AB (fun _=>AP (by omega) (x:=xs[k].Col) (by simp [hk]) (WX (fun w hw=>?_) (fun hw=>?_))) (fun h=>by simp at h; omega)
        · refine AX rfl (BA (by simp; omega) (hny _ ?_))
          rw [J,D,←V,hw,List.append_assoc]; rfl
        · refine AO rfl (hny _ ?_)
          rw [J,D,←V,hw]; simp
      · subst Y
        dsimp only
        rw [List.take_length]
        exact AB (fun h=>by simp at h) (fun _=>G)
  · subst hm
    dsimp only
    refine AB (fun h=>by omega) (fun _=>?_)
    have:=fI O
    rw [show U.toNat=n by omega] at this
    rw [this,Int.toNat_natCast,List.take_length]
    exact hQ
end Go.Proofs.YtbohadngdkjljaaGreat
