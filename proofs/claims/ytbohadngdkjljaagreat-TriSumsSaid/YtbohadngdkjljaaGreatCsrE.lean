import Derived.Test.YtbohadngdkjljaaGreatT
import Derived.Test.YtbohadngdkjljaaGreatFwQ
namespace Go.Proofs.YtbohadngdkjljaaGreat
open Go Go.Fw
set_option linter.unusedVariables false
set_option linter.unusedSimpArgs false
def OO (x y:Int):Int:=if x<y then -1 else if y<x then 1 else 0
theorem FL {x y:Int} {Q:Int→Prop} (h:Q (OO x y)):CJ x y Q:=by
  unfold CJ HF
  unfold OO at h
  refine AN (by simp) (AN (by simp) (AC (fun h1=>?_) (fun h1=>AC (fun h2=>?_) (fun h2=>?_))))
  · rwa [if_pos h1] at h
  · rwa [if_neg h1,if_pos h2] at h
  · rwa [if_neg h1,if_neg h2] at h
theorem bN {x y:Int} {Q:Int→Prop} (h:Q (OO x y)):GU x y Q:=by
  unfold GU LQ
  unfold OO at h
  refine AN (by simp) (AN (by simp) (AC (fun h1=>?_) (fun h1=>AC (fun h2=>?_) (fun h2=>?_))))
  · rwa [if_pos h1] at h
  · rwa [if_neg h1,if_pos h2] at h
  · rwa [if_neg h1,if_neg h2] at h
theorem kY {x y:Int} {Q:Int→Prop} (h:Q (OO x y)):IP x y Q:=by
  unfold IP KL
  unfold OO at h
  refine AN (by simp) (AN (by simp) (AC (fun h1=>?_) (fun h1=>AC (fun h2=>?_) (fun h2=>?_))))
  · rwa [if_pos h1] at h
  · rwa [if_neg h1,if_pos h2] at h
  · rwa [if_neg h1,if_neg h2] at h
def uS (x y:Int):Int:=if x=0 then y else x
theorem fE {x y:Int} {Q:Int→Prop} (h:Q (uS x y)):HG [x,y] Q:=by
  unfold HG
  unfold uS at h
  refine EC 2 (by omega) (fun i=>(0<i→x=0)∧(1<i→y=0)) ⟨by omega,by omega⟩ (fun i next hi hR hn=>?_) (fun next hR=>?_)
  · refine AC (fun _=>?_) (fun h=>by simp at h; omega)
    match i,hi with
    | 0,_=>exact AO (by omega) (x:=x) rfl (FR (fun e=>by rwa [if_neg e] at h) (fun e=>hn ⟨fun _=>e,by omega⟩))
    | 1,_=>exact AO (by omega) (x:=y) rfl (FR (fun e=>by rwa [if_pos (hR.1 (by omega))] at h) (fun e=>hn ⟨fun _=>hR.1 (by omega),fun _=>e⟩))
  · refine AC (fun h=>by simp at h) (fun _=>?_)
    rwa [if_pos (hR.1 (by omega)),hR.2 (by omega)] at h
def PA (a:AP):Prop:=-9223372036854775808≤a.Hi∧a.Hi≤9223372036854775807∧0≤a.Lo∧a.Lo≤18446744073709551615
def FP (x:Int):Prop:=-9223372036854775808≤x∧x≤9223372036854775807
def fF (a b:AP):Prop:=a.Hi<b.Hi∨(a.Hi=b.Hi∧a.Lo≤b.Lo)
instance (a b:AP):Decidable (fF a b):=by unfold fF; infer_instance
theorem WA (x:Int):IntKind.wrap .u64 x=x % 18446744073709551616:=by
  simp [IntKind.wrap,IntKind.bits,IntKind.signed]
theorem IY (x:Int):AH x=(x+9223372036854775808) % 18446744073709551616 - 9223372036854775808:=by
  show IntKind.wrap .i64 x=_
  rw [IntKind.wrap_i64]
def PX (v:Int):AP:=⟨if v<0 then -1 else 0,v % 18446744073709551616⟩
theorem WB {v:Int} (h:FP v):PA (PX v):=by unfold PX PA; unfold FP at h; simp only; split <;> omega
theorem Ai1 {v:Int} (h:FP v):shr .i64 v 63=if v<0 then -1 else 0:=by
  unfold FP at h
  show v.fdiv (2 ^ 63)=_
  rw [Int.fdiv_eq_ediv_of_nonneg _ (by decide)]
  split
  · rw [show (2:Int) ^ 63=9223372036854775808 from rfl]; omega
  · rw [show (2:Int) ^ 63=9223372036854775808 from rfl]; omega
theorem GD {v:Int} {Q:AP→Prop} (h:FP v) (hQ:Q (PX v)):JR v Q:=by
  unfold JR; rw [Ai1 h,WA]; exact hQ
theorem rN {a b:AP} {Q:Int→Prop} (hQ:Q (uS (OO a.Hi b.Hi) (OO a.Lo b.Lo))):QR a b Q:=by
  unfold QR
  exact bN (kY (fE hQ))
theorem mG {a b:AP} {Q:AP→Prop} (hQ:Q (if fF a b then a else b)):PJ a b Q:=by
  unfold PJ
  refine rN (AC (fun h=>?_) (fun h=>?_))
  · rwa [if_pos] at hQ
    unfold fF; unfold uS OO at h
    (repeat' split at h) <;> omega
  · rwa [if_neg] at hQ
    unfold fF; unfold uS OO at h
    (repeat' split at h) <;> omega
theorem PR {a b:AP} (h1:a.Hi=b.Hi) (h2:a.Lo=b.Lo):a=b:=by cases a; cases b; simp_all
def GF (r:Int) (a b:AP):AP:=
  if r=1∨r=3∨r=4 then (if fF a b then a else b)
  else if r=2 then (if a=⟨0,0⟩∧b=⟨0,0⟩ then ⟨0,0⟩ else ⟨0,1⟩)
  else if r=5 then ⟨AH (a.Hi+b.Hi+(if 18446744073709551616≤a.Lo+b.Lo then 1 else 0)),(a.Lo+b.Lo) % 18446744073709551616⟩
  else ⟨0,0⟩
theorem SW {r:Int} {a b:AP} (ha:PA a) (hb:PA b):PA (GF r a b):=by
  unfold GF
  split
  · split <;> assumption
  · split
    · split <;> (unfold PA; simp)
    · split
      · unfold PA at *; simp only [IY]; omega
      · unfold PA; simp
theorem bO {b:Bool} {Q:AP→Prop} (hQ:Q (if b then ⟨0,1⟩ else ⟨0,0⟩)):LX b Q:=by
  unfold LX
  refine ⟨fun h=>GD (by unfold FP; omega) ?_,fun h=>?_⟩
  · subst h; exact hQ
  · subst h; exact hQ
theorem fG {a b:AP} {Q:AP→Prop} (ha:PA a) (hb:PA b) (hQ:Q (GF 5 a b)):XF a b Q:=by
  unfold XF SH
  have e:GF 5 a b=⟨AH (a.Hi+b.Hi+(if 18446744073709551616≤a.Lo+b.Lo then 1 else 0)),(a.Lo+b.Lo) % 18446744073709551616⟩:=rfl
  rw [e] at hQ
  unfold PA at ha hb
  simp only [WA,IY] at hQ ⊢
  refine AC (fun h=>?_) (fun h=>?_)
  · rw [if_pos (by omega)] at hQ
    have:((a.Hi % 18446744073709551616+b.Hi % 18446744073709551616) % 18446744073709551616+1) % 18446744073709551616=(a.Hi+b.Hi+1) % 18446744073709551616:=by omega
    rw [this]
    have:((a.Hi+b.Hi+1) % 18446744073709551616+9223372036854775808) % 18446744073709551616=(a.Hi+b.Hi+1+9223372036854775808) % 18446744073709551616:=by omega
    rw [this]; exact hQ
  · rw [if_neg (by omega)] at hQ
    have:((a.Hi % 18446744073709551616+b.Hi % 18446744073709551616) % 18446744073709551616+0) % 18446744073709551616=(a.Hi+b.Hi+0) % 18446744073709551616:=by omega
    rw [this]
    have:((a.Hi+b.Hi+0) % 18446744073709551616+9223372036854775808) % 18446744073709551616=(a.Hi+b.Hi+0+9223372036854775808) % 18446744073709551616:=by omega
    rw [this]; exact hQ
theorem PS {r:Int} {a b:AP} {Q:AP→Prop} (ha:PA a) (hb:PA b) (hQ:Q (GF r a b)):PK r a b Q:=by
  unfold PK
  refine FH (fun t=>t=decide (r=1∨r=3∨r=4)) (fun t ht=>?_) fun k hk=>?_
  · subst ht
    refine AC (fun h=>mG ?_) (fun h=>CU (fun h2=>?_) (fun h2=>CU (fun h5=>fG ha hb ?_) (fun h5=>?_)))
    · unfold GF at hQ; rwa [if_pos h] at hQ
    · subst h2
      unfold GF at hQ
      rw [if_neg h,if_pos rfl] at hQ
      refine CO (fun hne=>bO ?_) (fun he=>bO ?_)
      · rw [if_neg] at hQ
        · exact hQ
        · rintro ⟨e1,e2⟩; subst e1 e2; simp at hne
      · have he:a=b:=by simpa using he
        subst he
        by_cases e:a=⟨0,0⟩
        · rw [if_pos ⟨e,e⟩] at hQ; simpa [e] using hQ
        · rw [if_neg (fun h=>e h.1)] at hQ; simpa [e] using hQ
    · subst h5; exact hQ
    · unfold GF at hQ; rwa [if_neg h,if_neg h2,if_neg h5] at hQ
  · refine CU (fun h=>hk _ ?_) (fun h=>CU (fun h3=>hk _ ?_) (fun h3=>hk _ ?_))
    · simp [h]
    · simp [h3]
    · by_cases h4:r=4 <;> simp [h,h3,h4]
def KV (a:AP):Int×Bool:=if (a.Hi=0∧a.Lo≤9223372036854775807)∨(a.Hi = -1∧9223372036854775808≤a.Lo) then (AH a.Lo,true) else (0,false)
theorem YH {r:Int} {a:AP} {Q:Int×Bool→Prop} (ha:PA a) (hQ:Q (KV a)):ID r a Q:=by
  unfold ID XG
  unfold PA at ha
  unfold KV at hQ
  refine GD (by unfold FP; rw [IY]; omega) (CO (fun h=>?_) (fun h=>?_))
  · rw [if_neg] at hQ
    · exact hQ
    · intro h'
      simp only [beq_eq_false_iff_ne,ne_eq] at h
      apply h
      apply PR <;> simp only [PX,IY] <;> (try split) <;> omega
  · have h:PX (AH a.Lo)=a:=by simpa using h
    rw [if_pos] at hQ
    · exact hQ
    · rw [←h]
      simp only [PX,IY]
      split <;> omega
theorem KG {r:Int} {Q:Bool→Prop} (hQ:Q (decide (1≤r∧r≤5))):MZ r Q:=by
  unfold MZ
  refine AC (fun h=>?_) (fun h=>?_)
  · rwa [show decide (r<6)=decide (1≤r∧r≤5) by apply decide_eq_decide.2; omega]
  · rwa [show decide (1≤r∧r≤5)=false by apply decide_eq_false; omega] at hQ
open Go Go.Fw Go.Sort Go.Shelf
abbrev EX:=Int×Int
def TS (a b:EX):Prop:=a.1<b.1∨(a.1=b.1∧a.2<b.2)
instance (a b:EX):Decidable (TS a b):=by unfold TS; infer_instance
theorem MK {a b c:EX} (h1:TS a b) (h2:TS b c):TS a c:=by unfold TS at *; omega
theorem GG (a:EX):¬TS a a:=by unfold TS; omega
theorem oG {a b:EX} (h1:¬TS a b) (h2:a≠b):TS b a:=by
  obtain ⟨a1,a2⟩:=a; obtain ⟨b1,b2⟩:=b
  unfold TS at *
  simp only [ne_eq,Prod.mk.injEq] at *
  omega
def ins (r:Int) (k:EX) (v:AP):List (EX×AP)→List (EX×AP)
  | []=>[(k,v)]
  | p :: l=>if TS p.1 k then p :: ins r k v l else if p.1=k then (k,GF r p.2 v) :: l else (k,v) :: p :: l
def SC (r:Int) (ts:List (EX×Int)):List (EX×AP):=ts.foldl (fun l t=>ins r t.1 (PX t.2) l) []
theorem oH (r:Int) (ts:List (EX×Int)) (t:EX×Int):SC r (ts++[t])=ins r t.1 (PX t.2) (SC r ts):=by simp [SC]
def srt (l:List (EX×AP)):Prop:=l.Pairwise fun a b=>TS a.1 b.1
theorem iV {r:Int} {k:EX} {v:AP}:∀ {l:List (EX×AP)} {p:EX×AP},p∈ins r k v l→p.1=k∨∃ q∈l,q.1=p.1
  | [],p,h=>by simp [ins] at h; simp [h]
  | q :: l,p,h=>by
    unfold ins at h
    split at h
    · rcases List.mem_cons.1 h with rfl | h
      · exact .inr ⟨p,by simp,rfl⟩
      · rcases iV h with h | ⟨x,hx,e⟩
        · exact .inl h
        · exact .inr ⟨x,by simp [hx],e⟩
    · split at h
      · rcases List.mem_cons.1 h with rfl | h
        · exact .inl rfl
        · exact .inr ⟨p,by simp [h],rfl⟩
      · rcases List.mem_cons.1 h with rfl | h
        · exact .inl rfl
        · exact .inr ⟨p,h,rfl⟩
theorem gS {r:Int} {k:EX} {v:AP}:∀ {l:List (EX×AP)},srt l→srt (ins r k v l)
  | [],_=>by simp [ins,srt]
  | p :: l,h=>by
    unfold srt at h
    rw [List.pairwise_cons] at h
    unfold ins
    split
    · rename_i hk
      refine List.pairwise_cons.2 ⟨fun q hq=>?_,gS h.2⟩
      rcases iV hq with e | ⟨x,hx,e⟩
      · rw [e]; exact hk
      · rw [←e]; exact h.1 x hx
    · rename_i hk
      split
      · rename_i e
        subst e
        exact List.pairwise_cons.2 ⟨fun q hq=>h.1 q hq,h.2⟩
      · rename_i e
        have:=oG hk e
        exact List.pairwise_cons.2 ⟨fun q hq=>by
          rcases List.mem_cons.1 hq with rfl | hq
          · exact this
          · exact MK this (h.1 q hq),List.pairwise_cons.2 h⟩
theorem UX (r:Int) (ts:List (EX×Int)):srt (SC r ts):=by
  unfold SC
  suffices ∀ (ts:List (EX×Int)) (l:List (EX×AP)),srt l→srt (ts.foldl (fun l t=>ins r t.1 (PX t.2) l) l) from this ts [] .nil
  intro ts
  induction ts with
  | nil=>intro l h; exact h
  | cons t ts ih=>intro l h; exact ih _ (gS h)
theorem VP {l:List (EX×AP)} (h:srt l):EM l:=by
  unfold EM
  rw [List.nodup_iff_pairwise_ne,List.pairwise_map]
  exact List.Pairwise.imp (R:=fun a b:EX×AP=>TS a.1 b.1) (fun {a b} hab (e:a.1=b.1)=>GG b.1 (by rw [e] at hab; exact hab)) h
theorem yB (r:Int) (k:EX) (v:AP):∀ l:List (EX×AP),(ins r k v l).length≤l.length+1
  | []=>by simp [ins]
  | p :: l=>by
    unfold ins
    have:=yB r k v l
    split
    · simp; omega
    · split <;> simp
theorem yC {r:Int} {k:EX} {v:AP} (hv:PA v):∀ {l:List (EX×AP)},(∀ p∈l,PA p.2)→∀ p∈ins r k v l,PA p.2
  | [],_,p,h=>by simp [ins] at h; rw [h]; exact hv
  | q :: l,hl,p,h=>by
    unfold ins at h
    split at h
    · rcases List.mem_cons.1 h with rfl | h
      · exact hl _ (by simp)
      · exact yC hv (fun x hx=>hl x (by simp [hx])) p h
    · split at h
      · rcases List.mem_cons.1 h with rfl | h
        · exact SW (hl q (by simp)) hv
        · exact hl p (by simp [h])
      · rcases List.mem_cons.1 h with rfl | h
        · exact hv
        · exact hl p h
theorem WC (r:Int):∀ (ts:List (EX×Int)),(∀ t∈ts,FP t.2)→(SC r ts).length≤ts.length∧∀ p∈SC r ts,PA p.2:=by
  suffices ∀ (ts:List (EX×Int)) (l:List (EX×AP)),(∀ t∈ts,FP t.2)→(∀ p∈l,PA p.2)→(ts.foldl (fun l t=>ins r t.1 (PX t.2) l) l).length≤l.length+ts.length∧∀ p∈ts.foldl (fun l t=>ins r t.1 (PX t.2) l) l,PA p.2 from
    fun ts h=>by simpa [SC] using this ts [] h (by simp)
  intro ts
  induction ts with
  | nil=>intro l _ h; exact ⟨by simp,h⟩
  | cons t ts ih=>
    intro l ht h
    have:=ih (ins r t.1 (PX t.2) l) (fun x hx=>ht x (by simp [hx])) (yC (WB (ht t (by simp))) h)
    have h2:=yB r t.1 (PX t.2) l
    exact ⟨by simp only [List.foldl_cons,List.length_cons]; omega,this.2⟩
theorem Ac3 {p:EX×AP} {l:List (EX×AP)} {k:EX} (h:srt (p :: l)) (hk:TS k p.1):BM k (p :: l)=none:=by
  apply dL
  intro hm
  obtain ⟨q,hq,e⟩:=List.mem_map.1 hm
  rcases List.mem_cons.1 hq with rfl | hq
  · exact GG k (e▸hk)
  · have h1:=MK hk ((List.pairwise_cons.1 h).1 q hq)
    rw [e] at h1; exact GG k h1
theorem oI {r:Int} {k:EX} {v:AP} (k':EX):∀ {l:List (EX×AP)},srt l→BM k' (ins r k v l)=if k'=k then some (match BM k l with | some w=>GF r w v | none=>v) else BM k' l
  | [],_=>by simp only [ins,BM]
  | p :: l,h=>by
    have ih:=oI (r:=r) (k:=k) (v:=v) k' (List.pairwise_cons.1 h).2
    unfold ins
    split
    · rename_i hk
      have hne:¬k=p.1:=fun e=>GG k (by rw [←e] at hk; exact hk)
      simp only [BM,ih,if_neg hne]
      by_cases e:k'=k
      · subst e; simp [hne]
      · simp [e]
    · rename_i hk
      split
      · rename_i e
        subst e
        simp only [BM,if_true]
        by_cases e:k'=p.1 <;> simp [e]
      · rename_i e
        have hlt:=oG hk e
        rw [Ac3 h hlt]
        simp only [BM]
theorem rO {r:Int} {k:EX} {v:AP} {l:List (EX×AP)} (h:srt l):(ins r k v l).Perm (EE k (match BM k l with | some w=>GF r w v | none=>v) l):=by
  refine dN (VP (gS h)) (GS (VP h) _ _) fun k'=>?_
  rw [oI k' h]
  by_cases e:k'=k
  · subst e; simp [BN]
  · simp [e,BE e]
def NJ {α:Type} (l:List (EX×AP)) (mk:EX→Int→α):List α×Int:=if l.all (fun p=>(KV p.2).2) then (l.map (fun p=>mk p.1 (KV p.2).1),0) else ([],12)
def rP (t:AD):EX×Int:=((t.Row,t.Col),t.Val)
def rQ (k:EX) (v:Int):AD:=⟨k.1,k.2,v⟩
def oJ (t:AM):EX×Int:=((t.From,t.To),t.W)
def mkE (k:EX) (v:Int):AM:=⟨k.1,k.2,v⟩
theorem oK {α:Type} {ord:α→α→(Int→Prop)→Prop} (cf:α→α→Int) (hc:∀ x y Q,Q (cf x y)→ord x y Q) (hO:SWO (ltOf cf)) {xs zs:List α} {K:List α→Prop} (hl:xs.length≤1000000000000) (hp:xs.Perm zs) (hz:zs.Pairwise fun x y=>cf x y<0) (hK:K zs):qY ord xs K:=by
  refine ⟨cf,fun x y Q=>hc x y Q,hO,by omega,fun ys hys hsorted=>?_⟩
  have hasym:∀ x y,cf x y<0→0≤cf y x:=by
    intro x y h
    rcases Int.lt_or_le (cf y x) 0 with h' | h'
    · have:=hO.trans x y x (by simpa [ltOf] using h) (by simpa [ltOf] using h')
      rw [hO.irrefl] at this; cases this
    · exact h'
  have:ys=zs:=dO (hys.trans hp) hsorted (hz.imp fun {a b} h=>hasym a b h) fun a b ha hb h1 h2=>by
    have ha:=(hys.trans hp).mem_iff.1 ha
    have hb:=(hys.trans hp).mem_iff.1 hb
    obtain ⟨i,hi,rfl⟩:=List.getElem_of_mem ha
    obtain ⟨j,hj,rfl⟩:=List.getElem_of_mem hb
    rw [List.pairwise_iff_getElem] at hz
    rcases Nat.lt_trichotomy i j with h | h | h
    · have:=hz i j hi hj h; omega
    · subst h; rfl
    · have:=hz j i hj hi h; omega
  rw [this]; exact hK
def cfT (x y:AD):Int:=uS (OO x.Row y.Row) (OO x.Col y.Col)
theorem oL (x y:AD):cfT x y<0↔TS (x.Row,x.Col) (y.Row,y.Col):=by
  unfold cfT uS OO TS
  (repeat' split) <;> simp only <;> omega
theorem AgJ {x y:AD} {Q:Int→Prop} (h:Q (cfT x y)):YA x y Q:=by
  unfold YA
  exact FL (FL (fE h))
theorem AeH:SWO (ltOf cfT) where
  irrefl x:=by unfold ltOf; simp only [oL]; simp [TS]
  trans x y z h1 h2:=by unfold ltOf at *; simp only [oL,decide_eq_true_eq] at *; exact MK h1 h2
  ntrans x y z h1 h2:=by unfold ltOf at *; simp only [oL,decide_eq_false_iff_not,TS] at *; omega
def cfE (x y:AM):Int:=uS (uS (OO x.From y.From) (OO x.To y.To)) (OO x.W y.W)
theorem oM (x y:AM):cfE x y<0↔TS (x.From,x.To) (y.From,y.To)∨(x.From=y.From∧x.To=y.To∧x.W<y.W):=by
  unfold cfE uS OO TS
  (repeat' split) <;> simp only <;> omega
theorem AgK {x y:AM} {Q:Int→Prop} (h:Q (cfE x y)):UE x y Q:=by
  unfold UE ZR
  exact FL (FL (fE (bN (fE h))))
theorem AeI:SWO (ltOf cfE) where
  irrefl x:=by unfold ltOf; simp only [oM]; simp [TS]
  trans x y z h1 h2:=by unfold ltOf at *; simp only [oM,decide_eq_true_eq,TS] at *; omega
  ntrans x y z h1 h2:=by unfold ltOf at *; simp only [oM,decide_eq_false_iff_not,TS] at *; omega
theorem bP {m d:List (EX×AP)} {l:List (EX×AP)} {α:Type} {mk:EX→Int→α} (hp:d.Perm l) (hd:∀ p∈d,(KV p.2).2=true):NJ l mk=(l.map (fun p=>mk p.1 (KV p.2).1),0):=by
  unfold NJ
  rw [if_pos]
  rw [List.all_eq_true]
  exact fun p hpm=>hd p (hp.mem_iff.2 hpm)
theorem yD {l:List (EX×AP)} {α:Type} {mk:EX→Int→α} {p:EX×AP} (hp:p∈l) (hd:(KV p.2).2=false):NJ l mk=([],12):=by
  unfold NJ
  rw [if_neg]
  rw [List.all_eq_true]
  intro h
  rw [h p hp] at hd; cases hd
theorem HT {α β:Type} {f:α→β} {xs:List α} {i:Nat} (h:i<xs.length):(xs.take (i+1)).map f=(xs.take i).map f++[f xs[i]]:=by
  rw [List.take_succ_eq_append_getElem h,List.map_append]; rfl
theorem Aa5 {r:Int} {ts:List AD} {Q:List AD×Int→Prop} (hl:ts.length≤1000000) (hv:∀ t∈ts,FP t.Val) (hQ:Q (NJ (SC r (ts.map rP)) rQ)):SI r ts Q:=by
  unfold SI
  have hvk:∀ (i:Nat) t,t∈(ts.take i).map rP→FP t.2:=by
    intro i t ht
    obtain ⟨x,hx,rfl⟩:=List.mem_map.1 ht
    exact hv x (List.mem_of_mem_take hx)
  refine AW (fun (s:List (EX×AP)) i=>(s,i)) 0 ts.length (by omega) (fun i m=>m.Perm (SC r ((ts.take i).map rP))) (by omega) .nil (fun i m next _ hi hm hn=>?_) (fun m next hm=>?_)
  · have hx:FP ts[i].Val:=hv _ (List.getElem_mem hi)
    have hk:EM m:=List.Perm.nodup (hm.symm.map Prod.fst) (VP (UX _ _))
    have hok:=(WC r _ (hvk i)).2
    have hfin:∀ w,(match BM (ts[i].Row,ts[i].Col) m with | some w=>GF r w (PX ts[i].Val) | none=>PX ts[i].Val)=w→(EE (ts[i].Row,ts[i].Col) w m).Perm (SC r ((ts.take (i+1)).map rP)):=by
      intro w hw
      rw [HT hi,oH,←hw,lX hk hm]
      exact (lW hk hm _ _).trans (rO (UX _ _)).symm
    refine AC (fun _=>?_) (fun h=>by omega)
    refine AV hi (GD hx (W3 (fun w hw=>BF rfl (PS ?_ (WB hx) (hn _ ?_))) (fun hw=>AN rfl (hn _ ?_))))
    · exact hok _ (hm.mem_iff.1 ((HO hk).1 hw))
    · exact hfin _ (by rw [hw])
    · exact hfin _ (by rw [hw])
  · refine AC (fun h=>by omega) (fun _=>?_)
    rw [List.take_length] at hm
    have hpr:=WC r (ts.map rP) (by simpa using hvk ts.length)
    have hsrt:=UX r (ts.map rP)
    generalize SC r (ts.map rP)=l at hm hpr hsrt hQ
    have hll:l.length≤1000000:=by simp at hpr; omega
    refine EB (fun s:List AD×List (EX×AP)=>∃ d,(d++s.2).Perm l∧s.1=d.map (fun p=>rQ p.1 (KV p.2).1)∧∀ p∈d,(KV p.2).2=true) (fun s=>s.2.length) ⟨[],by simpa using hm,rfl,by simp⟩ ?_
    rintro ⟨acc,rest⟩ next ⟨d,hd,rfl,hnar⟩ hn
    simp only at hd
    refine fA (fun e=>?_) (fun p rr hp=>?_)
    · subst e
      simp only [List.append_nil] at hd
      refine oK cfT (fun _ _ _=>AgJ) AeH (by have:=hd.length_eq; simp; omega) (hd.map _) ?_ ?_
      · rw [List.pairwise_map]
        exact List.Pairwise.imp (R:=fun a b:EX×AP=>TS a.1 b.1) (fun {a b} h=>(oL _ _).2 h) hsrt
      · rw [bP (m:=[]) hd hnar] at hQ; exact hQ
    · have hd2:(d++p :: rr).Perm l:=(List.Perm.append_left d hp.symm).trans hd
      have hpl:p∈l:=hd2.mem_iff.1 (by simp)
      refine YH (hpr.2 p hpl) (CO (fun h=>?_) (fun h=>?_))
      · rw [yD hpl h] at hQ; exact hQ
      · refine BG ?_ (hn _ ⟨d++[p],by simpa using hd2,by simp [rQ],?_⟩ ?_)
        · have:=hd2.length_eq; simp at this ⊢; omega
        · intro q hq
          rcases List.mem_append.1 hq with hq | hq
          · exact hnar q hq
          · simp at hq; subst hq; exact h
        · have:=hp.length_eq; simp at this ⊢; omega
theorem iW {r:Int} {ts:List AM} {Q:List AM×Int→Prop} (hr:1≤r∧r≤5) (hl:ts.length≤1000000) (hv:∀ t∈ts,FP t.W) (hQ:Q (NJ (SC r (ts.map oJ)) mkE)):OX r ts Q:=by
  unfold OX
  refine KG (AN (by simp [hr]) ?_)
  have hvk:∀ (i:Nat) t,t∈(ts.take i).map oJ→FP t.2:=by
    intro i t ht
    obtain ⟨x,hx,rfl⟩:=List.mem_map.1 ht
    exact hv x (List.mem_of_mem_take hx)
  refine AW (fun (s:List (EX×AP)) i=>(s,i)) 0 ts.length (by omega) (fun i m=>m.Perm (SC r ((ts.take i).map oJ))) (by omega) .nil (fun i m next _ hi hm hn=>?_) (fun m next hm=>?_)
  · have hx:FP ts[i].W:=hv _ (List.getElem_mem hi)
    have hk:EM m:=List.Perm.nodup (hm.symm.map Prod.fst) (VP (UX _ _))
    have hok:=(WC r _ (hvk i)).2
    have hfin:∀ w,(match BM (ts[i].From,ts[i].To) m with | some w=>GF r w (PX ts[i].W) | none=>PX ts[i].W)=w→(EE (ts[i].From,ts[i].To) w m).Perm (SC r ((ts.take (i+1)).map oJ)):=by
      intro w hw
      rw [HT hi,oH,←hw,lX hk hm]
      exact (lW hk hm _ _).trans (rO (UX _ _)).symm
    refine AC (fun _=>?_) (fun h=>by omega)
    refine AV hi (GD hx (W3 (fun w hw=>BF rfl (PS ?_ (WB hx) (hn _ ?_))) (fun hw=>AN rfl (hn _ ?_))))
    · exact hok _ (hm.mem_iff.1 ((HO hk).1 hw))
    · exact hfin _ (by rw [hw])
    · exact hfin _ (by rw [hw])
  · refine AC (fun h=>by omega) (fun _=>?_)
    rw [List.take_length] at hm
    have hpr:=WC r (ts.map oJ) (by simpa using hvk ts.length)
    have hsrt:=UX r (ts.map oJ)
    generalize SC r (ts.map oJ)=l at hm hpr hsrt hQ
    have hll:l.length≤1000000:=by simp at hpr; omega
    refine EB (fun s:List AM×List (EX×AP)=>∃ d,(d++s.2).Perm l∧s.1=d.map (fun p=>mkE p.1 (KV p.2).1)∧∀ p∈d,(KV p.2).2=true) (fun s=>s.2.length) ⟨[],by simpa using hm,rfl,by simp⟩ ?_
    rintro ⟨acc,rest⟩ next ⟨d,hd,rfl,hnar⟩ hn
    simp only at hd
    refine fA (fun e=>?_) (fun p rr hp=>?_)
    · subst e
      simp only [List.append_nil] at hd
      refine oK cfE (fun _ _ _=>AgK) AeI (by have:=hd.length_eq; simp; omega) (hd.map _) ?_ ?_
      · rw [List.pairwise_map]
        exact List.Pairwise.imp (R:=fun a b:EX×AP=>TS a.1 b.1) (fun {a b} h=>(oM _ _).2 (.inl h)) hsrt
      · rw [bP (m:=[]) hd hnar] at hQ; exact hQ
    · have hd2:(d++p :: rr).Perm l:=(List.Perm.append_left d hp.symm).trans hd
      have hpl:p∈l:=hd2.mem_iff.1 (by simp)
      refine YH (hpr.2 p hpl) (CO (fun h=>?_) (fun h=>?_))
      · rw [yD hpl h] at hQ; exact hQ
      · refine BG ?_ (hn _ ⟨d++[p],by simpa using hd2,by simp [mkE],?_⟩ ?_)
        · have:=hd2.length_eq; simp at this ⊢; omega
        · intro q hq
          rcases List.mem_append.1 hq with hq | hq
          · exact hnar q hq
          · simp at hq; subst hq; exact h
        · have:=hp.length_eq; simp at this ⊢; omega
def e0 (p:EX×AP):AM:=mkE p.1 0
theorem SX {f:Nat→Int} {n j:Nat} (h:j<n):((List.range n).map f)[j]? = some (f j):=by simp [h]
theorem Ac4 {f:Nat→Int} {n j:Nat} {v:Int}:((List.range n).map f).set j v=(List.range n).map (fun i=>if i=j then v else f i):=by
  apply List.ext_getElem?
  intro i
  rw [List.getElem?_set]
  simp only [List.length_map,List.length_range]
  by_cases e:j=i
  · subst e
    by_cases h:j<n
    · rw [if_pos rfl,if_pos h,SX h,if_pos rfl]
    · rw [if_pos rfl,if_neg h,List.getElem?_eq_none (by simp; omega)]
  · rw [if_neg e]
    by_cases h:i<n
    · rw [SX h,SX h,if_neg (fun h=>e h.symm)]
    · rw [List.getElem?_eq_none (by simp; omega),List.getElem?_eq_none (by simp; omega)]
theorem bQ {f g:Nat→Int} {n:Nat} (h:∀ j,j<n→f j=g j):(List.range n).map f=(List.range n).map g:=List.map_congr_left fun j hj=>h j (by simpa using hj)
def GK (ts:List AD) (j:Nat):Int:=((ts.countP (fun t:AD=>decide (t.Row<(j:Int))):Nat):Int)
def VQ (ts:List AD) (j:Nat):Int:=((ts.countP (fun t:AD=>decide (t.Row+1=(j:Int))):Nat):Int)
theorem vT (ts:List AD) (t:AD) (j:Nat):VQ (ts++[t]) j=VQ ts j+if t.Row+1=j then 1 else 0:=by
  unfold VQ; rw [List.countP_append,List.countP_singleton]; simp only [decide_eq_true_eq]; split <;> simp
theorem bR (ts:List AD) (j:Nat):0≤GK ts j∧GK ts j≤ts.length:=by
  unfold GK; have:=List.countP_le_length (p:=fun t:AD=>decide (t.Row<(j:Int))) (l:=ts); omega
theorem bS (ts:List AD) (j:Nat):0≤VQ ts j∧VQ ts j≤ts.length:=by
  unfold VQ; have:=List.countP_le_length (p:=fun t:AD=>decide (t.Row+1=(j:Int))) (l:=ts); omega
theorem WD (j:Nat):∀ (ts:List AD),(∀ t∈ts,0≤t.Row)→GK ts (j+1)=GK ts j+VQ ts (j+1)
  | [],_=>rfl
  | t :: ts,h=>by
    have:=WD j ts fun x hx=>h x (by simp [hx])
    unfold GK VQ at *
    simp only [List.countP_cons]
    have h0:=h t (by simp)
    by_cases h1:t.Row<j
    · have h2:t.Row<(j+1:Nat):=by omega
      have h3:¬t.Row+1=((j+1:Nat):Int):=by omega
      simp only [h1,h2,h3,decide_true,decide_false,if_true,if_false]; simp only [Bool.false_eq_true,if_false]; omega
    · by_cases h4:t.Row+1=((j+1:Nat):Int)
      · have h2:t.Row<(j+1:Nat):=by omega
        simp only [h1,h2,h4,decide_true,decide_false,if_true,if_false]; simp only [Bool.false_eq_true,if_false]; omega
      · have h2:¬t.Row<(j+1:Nat):=by omega
        simp only [h1,h2,h4,decide_true,decide_false,if_true,if_false]; simp only [Bool.false_eq_true,if_false]; omega
def BO (rows cols:Int) (ts:List AD):Rows:=⟨rows,cols,(List.range (rows.toNat+1)).map (GK ts),ts.map (·.Col),ts.map (·.Val)⟩
theorem Aa6 (n:Nat):List.replicate n (0:Int)=(List.range n).map fun _=>0:=by
  apply List.ext_getElem?
  intro i
  by_cases h:i<n
  · rw [SX h]; simp [h]
  · rw [List.getElem?_eq_none (by simp; omega),List.getElem?_eq_none (by simp; omega)]
theorem iX {rows cols:Int} {ts:List AD} {Q:Rows→Prop} (h0:0≤rows) (h1:rows≤1000000) (hl:ts.length≤1000000) (ht:∀ t∈ts,0≤t.Row∧t.Row<rows) (hQ:Q (BO rows cols ts)):OC rows cols ts Q:=by
  unfold OC VG
  obtain ⟨n,rfl⟩:∃ n:Nat,rows=n:=⟨rows.toNat,by omega⟩
  have e:AH ((n:Int)+1)=(n+1:Nat):=by rw [AX (by omega) (by omega)]; omega
  rw [e]
  refine ⟨by omega,by omega,?_⟩
  simp only [Int.toNat_natCast]
  rw [Aa6]
  refine AW (fun (s:List Int×List Int×List Int) i=>(s.1,s.2.1,s.2.2,i)) 0 ts.length (s0:=((List.range (n+1)).map fun _=>0,[],[])) (by omega) (fun i s=>s=((List.range (n+1)).map (VQ (ts.take i)),(ts.take i).map (·.Col),(ts.take i).map (·.Val))) (by omega) (by simp [VQ]) (fun i s next _ hi hm hn=>?_) (fun s next hm=>?_)
  · subst hm
    dsimp only
    have hr:=ht _ (List.getElem_mem hi)
    refine AC (fun _=>?_) (fun h=>by omega)
    refine AV hi ?_
    obtain ⟨q,hq⟩:∃ q:Nat,ts[i].Row=q:=⟨ts[i].Row.toNat,by omega⟩
    have e2:AH (ts[i].Row+1)=(q+1:Nat):=by rw [AX (by omega) (by omega)]; omega
    rw [e2]
    have hc:=bS (ts.take i) (q+1)
    have htl:(ts.take i).length≤ts.length:=by simp; omega
    refine AO (by omega) (SX (by omega)) (AO (by omega) (SX (by omega)) (BG (by simp; omega) (BG (by simp; omega) (hn ((List.range (n+1)).map (VQ (ts.take (i+1))),(ts.take (i+1)).map (·.Col),(ts.take (i+1)).map (·.Val)) rfl |> cast ?_))))
    congr 1
    simp only [Int.toNat_natCast]
    rw [Ac4,HT hi,HT hi]
    refine Prod.ext (bQ fun j hj=>?_) rfl
    rw [List.take_succ_eq_append_getElem hi,vT]
    by_cases ej:j=q+1
    · subst ej; rw [if_pos (by omega),if_pos rfl,AX (by omega) (by omega)]
    · rw [if_neg (by omega),if_neg ej]; omega
  · subst hm
    dsimp only
    refine AC (fun h=>by omega) (fun _=>?_)
    simp only [List.take_length]
    refine AW (fun (s:List Int) i=>(s,i)) 0 n (by omega) (fun i s=>s=(List.range (n+1)).map fun j=>if j≤i then GK ts j else VQ ts j) (by omega) (bQ fun j hj=>?_) (fun i s next _ hi hm hn=>?_) (fun s next hm=>?_)
    · by_cases ej:j≤0
      · rw [if_pos ej,show j=0 by omega]
        have:∀ t∈ts,¬t.Row<((0:Nat):Int):=fun t h=>by have:=ht t h; omega
        have h2:∀ t∈ts,¬t.Row+1=((0:Nat):Int):=fun t h=>by have:=ht t h; omega
        unfold VQ GK
        rw [List.countP_eq_zero.2 (by simpa using h2),List.countP_eq_zero.2 (by simpa using this)]
      · rw [if_neg ej]
    · subst hm
      refine AC (fun _=>?_) (fun h=>by omega)
      have e2:AH ((i:Int)+1)=(i+1:Nat):=by rw [AX (by omega) (by omega)]; omega
      rw [e2] at hn ⊢
      refine AO (by omega) (SX (by omega)) (AO (by omega) (SX (by omega)) (AO (by omega) (SX (by omega)) (hn _ ?_)))
      simp only [Int.toNat_natCast]
      rw [Ac4]
      refine bQ fun j hj=>?_
      have hb1:=bR ts i
      have hb2:=bS ts (i+1)
      rw [if_neg (show ¬i+1≤i by omega),if_pos (Nat.le_refl i),AX (by omega) (by omega)]
      by_cases ej:j=i+1
      · subst ej; rw [if_pos rfl,if_pos (Nat.le_refl _),WD i ts fun t h=>(ht t h).1]; omega
      · rw [if_neg ej]
        by_cases h:j≤i
        · rw [if_pos h,if_pos (by omega)]
        · rw [if_neg h,if_neg (by omega)]
    · subst hm
      refine AC (fun h=>by omega) (fun _=>?_)
      rw [bQ (g:=GK ts) fun j hj=>if_pos (by omega)]
      exact hQ
def zR:Rows:=⟨0,0,[],[],[]⟩
def ZB (rows cols:Int) (t:AD):Prop:=0≤t.Row∧t.Row<rows∧0≤t.Col∧t.Col<cols
instance (rows cols:Int) (t:AD):Decidable (ZB rows cols t):=by unfold ZB; infer_instance
def ofS (r rows cols:Int) (ts:List AD):Rows×Int:=
  if ¬(1≤r∧r≤5) then (zR,8)
  else if ¬(0≤rows∧rows≤4096∧0≤cols∧cols≤4096) then (zR,3)
  else if 65536<ts.length then (zR,5)
  else if ¬ ∀ t∈ts,ZB rows cols t then (zR,3)
  else if (NJ (SC r (ts.map rP)) rQ).2≠0 then (zR,(NJ (SC r (ts.map rP)) rQ).2)
  else (BO rows cols (NJ (SC r (ts.map rP)) rQ).1,0)
theorem yE {r:Int}:∀ {ts:List (EX×Int)} {p:EX×AP},p∈SC r ts→∃ t∈ts,t.1=p.1:=by
  suffices ∀ (ts:List (EX×Int)) (l:List (EX×AP)) p,p∈ts.foldl (fun l t=>ins r t.1 (PX t.2) l) l→(∃ t∈ts,t.1=p.1)∨∃ q∈l,q.1=p.1 from fun {ts p} h=>by
    rcases this ts [] p h with h | ⟨q,hq,_⟩
    · exact h
    · simp at hq
  intro ts
  induction ts with
  | nil=>intro l p h; exact .inr ⟨p,h,rfl⟩
  | cons t ts ih=>
    intro l p h
    rcases ih _ _ h with ⟨x,hx,e⟩ | ⟨q,hq,e⟩
    · exact .inl ⟨x,by simp [hx],e⟩
    · rcases iV hq with e2 | ⟨y,hy,e2⟩
      · exact .inl ⟨t,by simp,by rw [←e,e2]⟩
      · exact .inr ⟨y,hy,by rw [e2,e]⟩
theorem AgL {r rows cols:Int} {ts:List AD} (h:∀ t∈ts,ZB rows cols t):∀ t∈(NJ (SC r (ts.map rP)) rQ).1,ZB rows cols t:=by
  intro t ht
  unfold NJ at ht
  split at ht
  · obtain ⟨p,hp,rfl⟩:=List.mem_map.1 ht
    obtain ⟨x,hx,e⟩:=yE hp
    obtain ⟨y,hy,rfl⟩:=List.mem_map.1 hx
    have:=h y hy
    unfold ZB rQ at *
    rw [←e]
    exact this
  · simp at ht
theorem yF {α:Type} {mk:EX→Int→α} (l:List (EX×AP)):(NJ l mk).1.length≤l.length:=by
  unfold NJ; split <;> simp
theorem JE {x y:Int} {Q:Bool→Prop} (hQ:Q (decide (0≤x∧x≤y))):GA x y Q:=by
  unfold GA
  refine AC (fun h=>?_) (fun h=>?_)
  · rwa [show decide (x≤y)=decide (0≤x∧x≤y) by apply decide_eq_decide.2; omega]
  · rwa [show decide (0≤x∧x≤y)=false by apply decide_eq_false; omega] at hQ
theorem Ac5 {r rows cols:Int} {ts:List AD} {Q:Rows×Int→Prop} (hl:ts.length≤1000000000000) (hv:∀ t∈ts,FP t.Val) (hQ:Q (ofS r rows cols ts)):SJ r rows cols ts Q:=by
  unfold SJ
  unfold ofS at hQ
  refine KG (CO (fun h=>?_) (fun h=>?_))
  · rw [if_pos (by simpa using h)] at hQ; exact hQ
  have hr:1≤r∧r≤5:=by simpa using h
  rw [if_neg (by simpa using hr)] at hQ
  refine FH (fun b=>b=decide (¬(0≤rows∧rows≤4096∧0≤cols∧cols≤4096))) ?_ fun k hk=>?_
  · rintro _ rfl
    refine AC (fun h=>?_) (fun h=>?_)
    · rw [if_pos h] at hQ; exact hQ
    have hrc:0≤rows∧rows≤4096∧0≤cols∧cols≤4096:=by simpa using h
    rw [if_neg h] at hQ
    refine AC (fun h=>?_) (fun h=>?_)
    · rw [if_pos (by omega)] at hQ; exact hQ
    rw [if_neg (by omega)] at hQ
    have e1:AH (rows - 1)=rows - 1:=AX (by omega) (by omega)
    have e2:AH (cols - 1)=cols - 1:=AX (by omega) (by omega)
    unfold CN CZ
    refine EC ts.length (by omega) (fun i=>∀ (j:Nat) (hj:j<ts.length),j<i→ZB rows cols ts[j]) (by simp) (fun i next hi hR hn=>?_) (fun next hR=>?_)
    · refine AC (fun _=>?_) (fun h=>by omega)
      refine AV hi ?_
      unfold W5
      rw [e1,e2]
      have hbad (h:¬ZB rows cols ts[i]):AQ (decide (0≤(i:Int))) (Q (zR,3)) (SI r ts fun r213=>AQ (r213.2 != 0) (Q (zR,r213.2)) (OC rows cols r213.1 fun r226=>Q (r226,0))):=by
        refine AC (fun _=>?_) (fun h=>by omega)
        rw [if_pos (fun h'=>h (h' _ (List.getElem_mem hi)))] at hQ; exact hQ
      refine JE (CO (fun h=>BF rfl (hbad ?_)) (fun h=>JE (CO (fun h2=>hbad ?_) (fun h2=>hn fun j hj hji=>?_))))
      · unfold ZB; simp at h; omega
      · unfold ZB; simp at h2; omega
      · by_cases e:j=i
        · subst e; unfold ZB; simp at h h2; omega
        · exact hR j hj (by omega)
    · refine AC (fun h=>by omega) (fun _=>AN (by decide) ?_)
      have hall:∀ t∈ts,ZB rows cols t:=by
        intro t ht
        obtain ⟨j,hj,rfl⟩:=List.getElem_of_mem ht
        exact hR j hj hj
      rw [if_neg (by simpa using hall)] at hQ
      have hlen:(SC r (ts.map rP)).length≤65536:=by
        have:=(WC r (ts.map rP) (fun t ht=>by obtain ⟨x,hx,rfl⟩:=List.mem_map.1 ht; exact hv x hx)).1
        simp at this; omega
      refine Aa5 (by omega) hv (FR (fun h=>?_) (fun h=>iX (by omega) (by omega) ?_ ?_ ?_))
      · rw [if_pos h] at hQ; exact hQ
      · exact Nat.le_trans (yF _) (by omega)
      · intro t ht
        have:=AgL hall t ht
        unfold ZB at this; omega
      · rw [if_neg (by simpa using h)] at hQ; exact hQ
  · refine JE (CO (fun h=>hk _ ?_) (fun h=>JE (hk _ ?_)))
    · symm; apply decide_eq_true; simp at h; omega
    · simp at h
      by_cases h2:0≤cols∧cols≤4096 <;> simp [h2,h]
def e2t (e:AM):AD:=⟨e.From,e.To,e.W⟩
theorem AiP (l:List (EX×AP)):(NJ l rQ).1=(NJ l mkE).1.map e2t∧(NJ l rQ).2=(NJ l mkE).2:=by
  unfold NJ
  split
  · exact ⟨by simp only [List.map_map]; rfl,rfl⟩
  · exact ⟨rfl,rfl⟩
def small (a:Rows):Prop:=a.Start.length≤1000000000000∧a.Col.length≤1000000000000∧a.Val.length≤1000000000000
end Go.Proofs.YtbohadngdkjljaaGreat
