import Derived.Test.YtbohadngdkjljaaGreatBaseA
namespace Go.Proofs.YtbohadngdkjljaaGreat
open Go Go.Fw
set_option linter.unusedVariables false
set_option linter.unusedSimpArgs false
def IncI (l:List CE):Prop:=l.Pairwise fun a b=>a.At<b.At
instance (l:List CE):Decidable (IncI l):=by unfold IncI; infer_instance
structure VecP (v:Vec):Prop where
  n0:0≤v.N
  n1:v.N≤4096
  inc:IncI v.Items
  ins:∀ x∈v.Items,0≤x.At∧x.At<v.N
instance (v:Vec):Decidable (VecP v):=decidable_of_iff (0≤v.N∧v.N≤4096∧IncI v.Items∧∀ x∈v.Items,0≤x.At∧x.At<v.N) ⟨fun ⟨a,b,c,d⟩=>⟨a,b,c,d⟩,fun ⟨a,b,c,d⟩=>⟨a,b,c,d⟩⟩
theorem IncI.at {l:List CE} (h:IncI l) {i j:Nat} (hj:j<l.length) (hij:i<j):(l[i]'(by omega)).At<l[j].At:=by
  unfold IncI at h; rw [List.pairwise_iff_getElem] at h; exact h i j (by omega) hj hij
theorem yL {l:List CE} (h:IncI l) {n:Int} (hn:0≤n) (hi:∀ x∈l,0≤x.At∧x.At<n):(l.length:Int)≤n:=by
  have:∀ k (hk:k<l.length),(k:Int)≤l[k].At:=by
    intro k
    induction k with
    | zero=>intro hk; exact (hi _ (List.getElem_mem hk)).1
    | succ k ih=>intro hk; have:=ih (by omega); have:=h.at hk (i:=k) (by omega); omega
  rcases Nat.eq_zero_or_pos l.length with e | e
  · rw [e]; exact hn
  · have h1:=this (l.length - 1) (by omega)
    have h2:=hi _ (List.getElem_mem (show l.length - 1<l.length by omega))
    omega
theorem VecP.len {v:Vec} (h:VecP v):v.Items.length≤4096:=by have:=yL h.inc h.n0 h.ins; have:=h.n1; omega
theorem yM {α β:Type} {xs:List α} {f:α→β} {body:List β×Int→(List β×Int→Prop)→Prop} (hl:xs.length≤1000000000)
    (hs:∀ (i:Nat) (s:List β) (next:List β×Int→Prop) (hi:i<xs.length),s.length=i→(next (s++[f xs[i]],AJ ((i:Int)+1)))→body (s,(i:Int)) next)
    (he:∀ (next:List β×Int→Prop) s,s=xs.map f→body (s,(xs.length:Int)) next):BK body ([],0):=by
  refine BH (fun (s:List β) i=>(s,i)) 0 xs.length (by omega) (fun k s=>s=(xs.take k).map f) (by omega) (by simp) (fun k s next _ hk hs' hn=>?_) (fun s next hs'=>?_)
  · refine hs k s next hk (by subst hs'; simp; omega) (hn _ ?_)
    subst hs'
    rw [List.take_succ_eq_append_getElem hk,List.map_append]; rfl
  · rw [List.take_length] at hs'
    exact he next s hs'
def kvI (x:CE):Int×Int:=(x.At,x.Val)
def Y7 (l:List CE) (i:Int):Option Int:=BP i (l.map kvI)
theorem PG (s:CE) (l:List CE) (i:Int):Y7 (s :: l) i=if i=s.At then some s.Val else Y7 l i:=rfl
theorem aT:∀ {l:List CE} {i:Int},(∀ s∈l,s.At≠i)→Y7 l i=none
  | [],_,_=>rfl
  | s :: l,i,h=>by rw [PG,if_neg (fun e=>h s (by simp) e.symm)]; exact aT fun x hx=>h x (by simp [hx])
theorem tY:∀ {l:List CE} {i:Int} {v:Int},Y7 l i=some v→⟨i,v⟩∈l
  | s :: l,i,v,h=>by
    rw [PG] at h
    split at h
    · rename_i e; cases h; subst e; simp
    · exact List.mem_cons_of_mem _ (tY h)
theorem tZ:∀ {l:List CE} (h:IncI l) {s:CE},s∈l→Y7 l s.At=some s.Val
  | x :: l,h,s,hs=>by
    unfold IncI at h
    rw [List.pairwise_cons] at h
    rw [PG]
    rcases List.mem_cons.1 hs with e | hs
    · subst e; rw [if_pos rfl]
    · have:=h.1 s hs
      rw [if_neg (by omega)]; exact tZ h.2 hs
theorem RV:∀ (l:List CE) (m:List CE) (i:Int),Y7 (l++m) i=match Y7 l i with | some v=>some v | none=>Y7 m i
  | [],m,i=>rfl
  | s :: l,m,i=>by
    rw [List.cons_append,PG,PG]
    split
    · rfl
    · exact RV l m i
theorem IncI.take {l:List CE} (h:IncI l) (k:Nat):IncI (l.take k):=List.Pairwise.sublist (List.take_sublist k l) h
def gJ (r:Int) (A B:Int→Option Int) (acc:Option AP) (k:Int):Option AP:=match A k,B k with | some a,some x=>eW r acc (some (iV r a x)) | _,_=>acc
def Z8 (r:Int) (n:Nat) (A B:Int→Option Int):Option AP:=(List.range n).foldl (fun acc (k:Nat)=>gJ r A B acc k) none
theorem vL {r:Int} {A B:Int→Option Int} {acc:Option AP} (h:∀ w,acc=some w→NF w) (k:Int):∀ w,gJ r A B acc k=some w→NF w:=by
  intro w hw
  unfold gJ at hw
  split at hw
  · cases acc with
    | none=>cases hw; exact PF _ _ _
    | some b=>cases hw; exact UB (h b rfl) (PF _ _ _)
  · exact h w hw
theorem oS (r:Int) (n:Nat) (A B:Int→Option Int):∀ w,Z8 r n A B=some w→NF w:=by
  unfold Z8
  induction n with
  | zero=>intro w hw; cases hw
  | succ n ih=>rw [List.range_succ,List.foldl_append]; exact vL ih n
theorem VG {β γ:Type} {f g:β→γ→β}:∀ {l:List γ} {a:β},(∀ acc k,k∈l→f acc k=g acc k)→l.foldl f a=l.foldl g a
  | [],_,_=>rfl
  | x :: l,a,h=>by rw [List.foldl_cons,List.foldl_cons,h a x (by simp)]; exact VG fun acc k hk=>h acc k (by simp [hk])
theorem aU {β:Type} {step:β→Int→Int→β} {a:β}:∀ {n:Nat} {l:List CE},IncI l→(∀ x∈l,0≤x.At∧x.At<n) →
    l.foldl (fun acc x=>step acc x.At x.Val) a=(List.range n).foldl (fun acc (k:Nat)=>match Y7 l k with | some v=>step acc k v | none=>acc) a
  | 0,l,h,hi=>by
    cases l with
    | nil=>rfl
    | cons x l=>have:=hi x (by simp); omega
  | n+1,l,h,hi=>by
    rw [List.range_succ,List.foldl_append]
    simp only [List.foldl_cons,List.foldl_nil]
    have hc:l=[]∨∃ p y,l=p++[y]:=by
      rcases List.eq_nil_or_concat l with h | ⟨p,y,h⟩
      · exact .inl h
      · exact .inr ⟨p,y,by rw [h,List.concat_eq_append]⟩
    have old:∀ {l:List CE},IncI l→(∀ x∈l,0≤x.At∧x.At<n)→Y7 l n=none:=fun _ hi=>aT fun s hs=>by have:=hi s hs; omega
    rcases hc with e | ⟨p,y,e⟩
    · subst e
      rw [←aU (n:=n) (l:=[]) h (by simp)]; rfl
    · subst e
      have hp:IncI p:=(List.pairwise_append.1 h).1
      have hlt:∀ x∈p,x.At<y.At:=fun x hx=>(List.pairwise_append.1 h).2.2 x hx y (by simp)
      by_cases ey:y.At=n
      · have hpin:∀ x∈p,0≤x.At∧x.At<n:=fun x hx=>⟨(hi x (by simp [hx])).1,by have:=hlt x hx; omega⟩
        have e1:Y7 (p++[y]) n=some y.Val:=by rw [RV,old hp hpin,PG,if_pos ey.symm]
        rw [e1,List.foldl_append,aU hp hpin]
        simp only [List.foldl_cons,List.foldl_nil,ey]
        congr 1
        refine VG fun acc k hk=>?_
        have hk:=List.mem_range.1 hk
        have:Y7 (p++[y]) k=Y7 p k:=by rw [RV,PG,if_neg (by omega)]; cases Y7 p k <;> rfl
        rw [this]
      · have hin:∀ x∈p++[y],0≤x.At∧x.At<n:=by
          intro x hx
          have h1:=hi x hx
          refine ⟨h1.1,?_⟩
          have hy:=hi y (by simp)
          rcases List.mem_append.1 hx with hx | hx
          · have:=hlt x hx; omega
          · simp only [List.mem_singleton] at hx; subst hx; omega
        rw [old h hin,aU h hin]
def UE (r:Int) (B:Int→Option Int) (acc:Option AP) (y:CE):Option AP:=match B y.At with | some x=>eW r acc (some (iV r y.Val x)) | none=>acc
theorem vN {r:Int} {B:Int→Option Int} {acc:Option AP} (h:∀ w,acc=some w→NF w) (y:CE):∀ w,UE r B acc y=some w→NF w:=by
  intro w hw
  unfold UE at hw
  split at hw
  · cases acc with
    | none=>cases hw; exact PF _ _ _
    | some b=>cases hw; exact UB (h b rfl) (PF _ _ _)
  · exact h w hw
theorem kA (r:Int) (B:Int→Option Int):∀ (l:List CE) (acc:Option AP),(∀ w,acc=some w→NF w)→∀ w,l.foldl (UE r B) acc=some w→NF w
  | [],acc,h=>h
  | y :: l,acc,h=>kA r B l _ (vN h y)
theorem yN {r:Int} {B:Int→Option Int} {n:Nat} {l:List CE} (h:IncI l) (hi:∀ x∈l,0≤x.At∧x.At<n):l.foldl (UE r B) none=Z8 r n (Y7 l) B:=by
  have:=aU (step:=fun acc k a=>match B k with | some x=>eW r acc (some (iV r a x)) | none=>acc) (a:=none) h hi
  refine this.trans (VG fun acc k _=>?_)
  unfold gJ
  cases Y7 l (k:Int) <;> cases B (k:Int) <;> rfl
def lZ (ts:List AC) (i:Int):List CE:=(KH ts i.toNat).map UP
def zS (r:Int):Int:=if r=1∨r=3∨r=4 then 4611686018427387904 else 0
theorem mA {r:Int} {Q:Int→Prop} (hQ:Q (zS r)):TY r Q:=by
  unfold TY; unfold zS at hQ
  refine CB (fun h=>?_) (fun h=>CB (fun h3=>?_) (fun h3=>CB (fun h4=>?_) (fun h4=>?_)))
  · rwa [if_pos (.inl h)] at hQ
  · rwa [if_pos (.inr (.inl h3))] at hQ
  · rwa [if_pos (.inr (.inr h4))] at hQ
  · rwa [if_neg (by omega)] at hQ
def JP (x:Int):Int:=x % 40
theorem uA {x:Int} {Q:Int→Prop} (h:VS .u8 x) (hQ:Q (JP x)):RM x Q:=by
  unfold RM
  have hb:=bounds_u8 h
  rw [AV (by omega) (by omega),Int.tmod_eq_emod_of_nonneg (by omega)]
  exact hQ
theorem uB (x:Int):0≤JP x∧JP x≤39:=by unfold JP; omega
theorem Ab1 {a0:Int×Int} {ts:List AC} {Q:Rows→Prop} (h0:VS .u8 a0.1∧VS .u8 a0.2) (hv:∀ t∈ts,KS t)
    (hQ:∀ T,Canon (JP a0.1) (JP a0.2) T→(∀ t∈T,JO t.Val)→Q (BF (JP a0.1) (JP a0.2) T)):UX a0 ts Q:=by
  unfold UX
  have r0:=uB a0.1; have c0:=uB a0.2
  refine uA h0.1 (uA h0.2 (AcN fun ys hl hm=>?_))
  refine BH (fun (s:List AC) i=>(s,i)) 0 ys.length (by omega) (fun i s=>s.length≤i∧∀ t∈s,JO t.Val) (by omega) (s0:=[]) ⟨by simp,by simp⟩ (fun i s next _ hi hm2 hn=>?_) (fun s next hm2=>?_)
  · obtain ⟨hs1,hs2⟩:=hm2
    dsimp only
    refine AD (fun _=>?_) (fun h=>by omega)
    have hskip:next (s,AJ ((i:Int)+1)):=hn s ⟨by omega,hs2⟩
    refine BG hi (AD (fun _=>hskip) (fun _=>AD (fun _=>hskip) (fun _=>CB (fun _=>hskip) (fun g1=>CB (fun _=>hskip) (fun g2=>⟨g1,g2,?_⟩)))))
    have hx:JO ys[i].Val:=AaW (hv _ (hm _ (List.getElem_mem hi))).2.2
    refine BI (by simp only [List.length_singleton]; omega) (hn _ ⟨by simp; omega,fun t ht=>?_⟩)
    rcases List.mem_append.1 ht with ht | ht
    · exact hs2 t ht
    · simp at ht; subst ht; exact hx
  · obtain ⟨hs1,hs2⟩:=hm2
    dsimp only
    refine AD (fun h=>by omega) (fun _=>?_)
    refine cC (by omega) hs2 ?_
    rcases yH (r:=1) (rows:=JP a0.1) (cols:=JP a0.2) hs2 with ⟨h1,h2⟩ | ⟨T,hT,he,_,_,_,_,hTe,_⟩
    · refine BN (by simpa using h2) ?_
      unfold JU
      have e:AJ (JP a0.1+1)=JP a0.1+1:=AV (by omega) (by omega)
      rw [e]
      refine ⟨by omega,by omega,?_⟩
      have:=hQ [] ⟨r0.1,by omega,c0.1,by omega,by simp,.nil,by simp⟩ (by simp)
      unfold BF at this
      have e2:(JP a0.1+1).toNat=(JP a0.1).toNat+1:=by omega
      rw [e2,bZ]
      exact this
    · rw [he]
      refine AW (by simp) (hQ T hT fun t ht=>?_)
      rw [hTe] at ht
      unfold PE at ht
      split at ht
      · obtain ⟨p,_,rfl⟩:=List.mem_map.1 ht
        exact AaX p.2
      · simp at ht
def yO (r x:Int):Int:=if r=5 then x else if r=2 then nI .i64 x 1 else if (nI .i64 x 4611686018427387903).tmod 5=0 then 4611686018427387904 else nI .i64 x 4611686018427387903
def vO (r x:Int):Int:=if r=5 then x.tmod 2147483648 else yO r x
theorem uC (x y:Int):JO (nI .i64 x y):=by
  unfold nI JO
  show -9223372036854775808≤AJ _∧AJ _≤9223372036854775807
  rw [HP]; omega
theorem yP {r x:Int} (h:JO x):JO (yO r x):=by
  unfold yO
  repeat' split
  · exact h
  · exact uC _ _
  · unfold JO; omega
  · exact uC _ _
theorem yQ {r x:Int} (h:JO x):JO (vO r x):=by
  unfold vO
  split
  · unfold JO at *
    rcases Int.lt_or_le x 0 with h' | h'
    · have:=Int.neg_tmod (a:=-x) (b:=2147483648)
      rw [Int.neg_neg] at this
      rw [this,Int.tmod_eq_emod_of_nonneg (by omega)]; omega
    · rw [Int.tmod_eq_emod_of_nonneg h']; omega
  · exact yP h
theorem yR {r x:Int} {Q:Int→Prop} (hQ:Q (yO r x)):SQ r x Q:=by
  unfold SQ; unfold yO at hQ
  refine CB (fun h=>?_) (fun h=>CB (fun h2=>?_) (fun h2=>CB (fun h3=>?_) (fun h3=>?_)))
  · rwa [if_pos h] at hQ
  · rwa [if_neg h,if_pos h2] at hQ
  · rwa [if_neg h,if_neg h2,if_pos h3] at hQ
  · rwa [if_neg h,if_neg h2,if_neg h3] at hQ
theorem vP {r x:Int} {Q:Int→Prop} (hQ:Q (vO r x)):QB r x Q:=by
  unfold QB; unfold vO at hQ
  refine CB (fun h=>?_) (fun h=>yR ?_)
  · rwa [if_pos h] at hQ
  · rwa [if_neg h] at hQ
def dM (r:Int):Int:=if r<1∨5<r then 1 else r
theorem Ab2 (r:Int):1≤dM r∧dM r≤5:=by unfold dM; split <;> omega
theorem oT {r:Int} {Q:Int→Prop} (hQ:Q (dM r)):OY r Q:=by
  unfold OY; unfold dM at hQ
  refine AD (fun h=>?_) (fun h=>AD (fun h2=>?_) (fun h2=>?_))
  · rwa [if_pos (.inl h)] at hQ
  · rwa [if_pos (.inr h2)] at hQ
  · rwa [if_neg (by omega)] at hQ
def Ab3 (g:Int→Int) (t:AC):AC:=⟨t.Row,t.Col,g t.Val⟩
theorem rO {rows cols:Int} {T:List AC} (h:Canon rows cols T) (g:Int→Int):Canon rows cols (T.map (Ab3 g)) where
  r0:=h.r0
  r1:=h.r1
  c0:=h.c0
  c1:=h.c1
  len:=by rw [List.length_map]; exact h.len
  srt:=by unfold Srt; rw [List.pairwise_map]; exact h.srt
  inn:=by
    intro t ht
    obtain ⟨x,hx,rfl⟩:=List.mem_map.1 ht
    exact h.inn x hx
theorem rP (rows cols:Int) (T:List AC) (g:Int→Int):BF rows cols (T.map (Ab3 g)) = { BF rows cols T with Val:=T.map fun t=>g t.Val }:=by
  unfold BF
  have e:EG (T.map (Ab3 g))=EG T:=by
    funext j
    unfold EG
    rw [List.countP_map]; rfl
  rw [e,List.map_map,List.map_map]; rfl
theorem cE {a:HZ} {Q:Rows→Prop} (h1:VS .u8 a.Size.1∧VS .u8 a.Size.2) (h2:∀ t∈a.L,KS t) (hQ:∀ T,Canon (JP a.Size.1) (JP a.Size.2) T→(∀ t∈T,JO t.Val)→Q (BF (JP a.Size.1) (JP a.Size.2) T)):FH a Q:=by
  unfold FH
  refine Ab1 h1 h2 fun T hT hv=>oT ?_
  have hTl:=hT.len
  have hVl:(BF (JP a.Size.1) (JP a.Size.2) T).Val=T.map (·.Val):=rfl
  refine yM (xs:=(BF (JP a.Size.1) (JP a.Size.2) T).Val) (f:=vO (dM a.Ring)) (by rw [hVl,List.length_map]; omega) (fun i s next hi hs hn=>?_) (fun next s hs=>?_)
  · have hi':i<T.length:=by rw [hVl,List.length_map] at hi; exact hi
    exact AD (fun _=>BG hi (vP (BI (by simp; omega) hn))) (fun h=>by omega)
  · refine AD (fun h=>by omega) (fun _=>?_)
    have:=hQ (T.map (Ab3 (vO (dM a.Ring)))) (rO hT _) (fun t ht=>by
      obtain ⟨x,hx,rfl⟩:=List.mem_map.1 ht
      exact yQ (hv x hx))
    rw [rP] at this
    rw [hVl,List.map_map] at hs
    subst hs
    exact this
theorem QQ {x:Int} (h0:0≤x) (h1:x≤39):VS .u8 x:=by
  have:∀ n:Fin 40,VS .u8 (n.val:Int):=by unfold VS; decide
  have:=this ⟨x.toNat,by omega⟩
  simpa only [Int.toNat_of_nonneg h0] using this
theorem vQ (a b:AP):ZP a b∨ZP b a:=by unfold ZP; omega
theorem yS {a b:AP} (h:ZP a b) (h':ZP b a):a=b:=by unfold ZP at *; exact PC (by omega) (by omega)
theorem vR {a b c:AP} (h:ZP a b) (h':ZP b c):ZP a c:=by unfold ZP at *; omega
def eD (a b:AP):AP:=if ZP a b then a else b
theorem vS (a b:AP):eD a b=eD b a:=by
  unfold eD
  by_cases h:ZP a b <;> by_cases h':ZP b a
  · rw [if_pos h,if_pos h']; exact yS h h'
  · rw [if_pos h,if_neg h']
  · rw [if_neg h,if_pos h']
  · rcases vQ a b with e | e
    · exact absurd e h
    · exact absurd e h'
theorem rQ (a b c:AP):eD (eD a b) c=eD a (eD b c):=by
  unfold eD
  by_cases h1:ZP a b <;> by_cases h2:ZP b c <;> by_cases h3:ZP a c <;> simp only [h1,h2,h3,if_true,if_false]
  · exact absurd (vR h1 h2) h3
  · exfalso; unfold ZP at *; omega
theorem vT {r:Int} {a b:AP} (ha:NF a) (hb:NF b):GW r a b=GW r b a:=by
  by_cases h:r=1∨r=3∨r=4
  · have e:∀ a b,GW r a b=eD a b:=fun a b=>by unfold GW eD; rw [if_pos h]
    rw [e,e]; exact vS a b
  · by_cases h2:r=2
    · unfold GW
      rw [if_neg h,if_pos h2,if_neg h,if_pos h2]
      by_cases e1:a=⟨0,0⟩ <;> by_cases e2:b=⟨0,0⟩ <;> simp [e1,e2]
    · by_cases h5:r=5
      · subst h5
        rw [aS ha,aS hb,VF,VF,Int.add_comm]
      · unfold GW; rw [if_neg h,if_neg h2,if_neg h5,if_neg h,if_neg h2,if_neg h5]
theorem rR {r:Int} {a b c:AP} (ha:NF a) (hb:NF b) (hc:NF c):GW r (GW r a b) c=GW r a (GW r b c):=by
  by_cases h:r=1∨r=3∨r=4
  · have e:∀ a b,GW r a b=eD a b:=fun a b=>by unfold GW eD; rw [if_pos h]
    simp only [e]; exact rQ a b c
  · by_cases h2:r=2
    · have e:∀ a b,GW r a b=if a=⟨0,0⟩∧b=⟨0,0⟩ then ⟨0,0⟩ else ⟨0,1⟩:=fun a b=>by unfold GW; rw [if_neg h,if_pos h2]
      have n1:(⟨0,1⟩:AP)≠⟨0,0⟩:=by decide
      simp only [e]
      by_cases e1:a=⟨0,0⟩ <;> by_cases e2:b=⟨0,0⟩ <;> by_cases e3:c=⟨0,0⟩ <;> simp [e1,e2,e3]
    · by_cases h5:r=5
      · subst h5
        rw [aS ha,aS hb,aS hc,VF,VF,VF,VF,Int.add_assoc]
      · unfold GW
        simp only [if_neg h,if_neg h2,if_neg h5]
def yT (o:Option AP):Prop:=∀ w,o=some w→NF w
theorem yU {r:Int} {a b:Option AP} (ha:yT a) (hb:yT b):eW r a b=eW r b a:=by
  cases a with
  | none=>cases b <;> rfl
  | some x=>cases b with
    | none=>rfl
    | some y=>simp only [eW]; rw [vT (ha x rfl) (hb y rfl)]
theorem UF {r:Int} {a b c:Option AP} (ha:yT a) (hb:yT b) (hc:yT c):eW r (eW r a b) c=eW r a (eW r b c):=by
  cases a with
  | none=>cases b <;> rfl
  | some x=>cases b with
    | none=>cases c <;> rfl
    | some y=>cases c with
      | none=>rfl
      | some z=>simp only [eW]; rw [rR (ha x rfl) (hb y rfl) (hc z rfl)]
theorem kB (r:Int) (n:Nat) (A B:Int→Option Int):Z8 r (n+1) A B=gJ r A B (Z8 r n A B) n:=by
  unfold Z8; rw [List.range_succ,List.foldl_append]; rfl
theorem oU (r:Int) (k:Nat) (A B:Int→Option Int):∀ m:Nat,Z8 r (k+m) A B=eW r (Z8 r k A B) (Z8 r m (fun j=>A (j+k)) (fun j=>B (j+k)))
  | 0=>by rw [Nat.add_zero,show Z8 r 0 (fun j=>A (j+k)) (fun j=>B (j+k))=none from rfl,MR]
  | m+1=>by
    rw [←Nat.add_assoc,kB,kB,oU r k A B m]
    have ho:=oS r m (fun j=>A (j+k)) (fun j=>B (j+k))
    generalize Z8 r m (fun j=>A (j+k)) (fun j=>B (j+k))=o at ho ⊢
    unfold gJ
    rw [show (((k+m:Nat):Int))=(m:Int)+k by omega]
    simp only
    cases hA:A ((m:Int)+k) with
    | none=>rfl
    | some a=>cases hB:B ((m:Int)+k) with
      | none=>rfl
      | some x=>
        have hm:yT (some (iV r a x)):=fun w hw=>by
          have:=Option.some.inj hw
          subst this; exact PF _ _ _
        exact UF (oS r k A B) ho hm
theorem Z9 {r:Int} {n:Nat} {A A' B B':Int→Option Int} (hA:∀ j:Nat,j<n→A j=A' j) (hB:∀ j:Nat,j<n→B j=B' j):Z8 r n A B=Z8 r n A' B':=by
  unfold Z8
  refine VG fun acc k hk=>?_
  have hk:=List.mem_range.1 hk
  unfold gJ
  rw [hA k hk,hB k hk]
theorem Ab4 {l:List CE} (h:IncI l) {i a:Int}:Y7 l i=some a↔(⟨i,a⟩:CE)∈l:=⟨tY,fun hm=>tZ h hm⟩
theorem Ab5 {x y:Option Int} (h:∀ a,x=some a↔y=some a):x=y:=by
  cases x with
  | none=>cases y with
    | none=>rfl
    | some b=>have:=(h b).2 rfl; cases this
  | some a=>exact ((h a).1 rfl).symm
def uD (B:List AC) (c:Int) (k:Int):Option Int:=Y7 (lZ B k) c
def NL (r:Int) (A B:List AC) (i c:Int):Option AP:=(lZ A i).foldl (UE r (uD B c)) none
def KU (r:Int) (A B:List AC) (t:AC):Option AK:=(NL r A B t.Row t.Col).map fun w=>⟨t.Row,t.Col,w⟩
def GH (r:Int) (A B M:List AC):List AK:=M.filterMap (KU r A B)
theorem VH {rows cols:Int} {ts:List AC} {i:Nat} {Q:List Int×List Int→Prop} (h:Canon rows cols ts) (hi:(i:Int)<rows) (hQ:Q ((KH ts i).map (·.Col),(KH ts i).map (·.Val))):QO (BF rows cols ts) i Q:=by
  unfold QO
  have hr:=h.r1
  obtain ⟨lo,hi',s⟩:=h.seg i
  have e1:AJ ((i:Int)+1)=(i+1:Nat):=by rw [AV (by omega) (by omega)]; omega
  rw [e1]
  refine OA (by omega) (OA (by omega) ?_)
  rw [s.lo,s.hi]
  have h1:=s.le; have h2:=s.len
  have hc:(BF rows cols ts).Col.length=ts.length:=by simp [BF]
  have hv:(BF rows cols ts).Val.length=ts.length:=by simp [BF]
  refine ⟨by omega,by omega,by omega,by omega,by omega,by omega,?_⟩
  simp only [Int.toNat_natCast,BF,←List.map_take,←List.map_drop,s.eq]
  exact hQ
theorem mB {l:List Rows} {Q:List Rows→Prop} (hl:l.length≤100) (h:∀ a∈l,RU a∧PM a) (hQ:Q l):XU l Q:=by
  unfold XU
  refine BH (fun (s:List Rows) i=>(s,i)) 0 l.length (by omega) (fun i s=>s=l.take i) (by omega) rfl (fun i s next _ hi hm hn=>?_) (fun s next hm=>?_)
  · subst hm
    have hx:=h _ (List.getElem_mem hi)
    refine AD (fun _=>BG hi (aQ hx.1 ?_)) (fun h=>by omega)
    rw [decide_eq_true hx.2]
    refine AW rfl (BI (by simp; omega) (hn _ ?_))
    rw [List.take_succ_eq_append_getElem hi]
  · subst hm
    rw [List.take_length]
    exact AD (fun h=>by omega) (fun _=>hQ)
theorem mC {ts:List AC} (h:Srt ts) (i:Nat):IncI ((KH ts i).map UP):=by
  unfold IncI KH
  rw [List.pairwise_map]
  refine List.Pairwise.imp_of_mem ?_ (List.Pairwise.filter _ h)
  intro a b ha hb hab
  have h1:=of_decide_eq_true (List.mem_filter.1 ha).2
  have h2:=of_decide_eq_true (List.mem_filter.1 hb).2
  unfold PD key at hab
  simp only [UP]
  simp only at hab
  omega
def yV (m:List (Int×AP)) (asked:Int→Bool) (f:Int→Option AP):Prop:=(∀ c,asked c=true→BP c m=f c)∧∀ c w,BP c m=some w→NF w
theorem AcO {l:List (Int×Bool)} {k:Int} {C:Bool→Prop} (h:C ((BP k l).getD false)):uR l k false C:=KD h
theorem oV {r ra ca rb cb:Int} {A B:List AC} {asked:List (Int×Bool)} {i:Nat} {Q:List (Int×AP)→Prop} (hA:Canon ra ca A) (hB:Canon rb cb B) (hab:ca≤rb) (hi:(i:Int)<ra) (hr:1≤r∧r≤5) (hvA:∀ t∈A,JO t.Val) (hvB:∀ t∈B,JO t.Val)
    (hQ:∀ m,yV m (fun c=>(BP c asked).getD false) (NL r A B i)→Q m):QA asked r (BF ra ca A) (BF rb cb B) i Q:=by
  unfold QA
  refine VH hA hi ?_
  have hsl:=OB A i
  have hAl:=hA.len
  have hBl:=hB.len
  have hrow:∀ t∈KH A i,(0≤t.Col∧t.Col<ca)∧JO t.Val:=fun t ht=>by
    have hm:=(List.mem_filter.1 ht).1
    have:=hA.inn t hm
    unfold UD at this
    exact ⟨⟨this.2.2.1,this.2.2.2⟩,hvA t hm⟩
  unfold NL at hQ
  rw [show lZ A (i:Int)=(KH A i).map UP from rfl] at hQ
  generalize KH A i=xs at hQ hsl hrow
  refine BH (fun (s:List (Int×AP)) k=>(s,k)) 0 xs.length (by omega) (fun k m=>yV m (fun c=>(BP c asked).getD false) fun c=>((xs.take k).map UP).foldl (UE r (uD B c)) none) (by omega) ⟨fun c _=>rfl,fun c w h=>by simp [BP] at h⟩ (fun k m next _ hk hm hn=>?_) (fun m next hm=>?_)
  · dsimp only
    have hx:=hrow _ (List.getElem_mem hk)
    refine AD (fun _=>AM (by omega) (x:=xs[k].Col) (by simp [hk]) ?_) (fun h=>by simp at h; omega)
    obtain ⟨c0,hc0⟩:∃ c0:Nat,xs[k].Col=(c0:Int):=⟨xs[k].Col.toNat,by omega⟩
    rw [hc0]
    refine VH hB (by omega) ?_
    have hinc:=mC hB.srt c0
    have hsl2:=OB B c0
    have hrow2:∀ t∈KH B c0,JO t.Val:=fun t ht=>hvB t (List.mem_filter.1 ht).1
    have hbat:∀ c,uD B c xs[k].Col=Y7 ((KH B c0).map UP) c:=fun c=>by unfold uD lZ; rw [hc0]; rfl
    generalize KH B c0=ys at hinc hsl2 hrow2 hbat
    -- how it is behind so many of the row's items
    let F:Nat→Int→Option AP:=fun j c=>match Y7 ((ys.take j).map UP) c with
      | some b=>eW r (((xs.take k).map UP).foldl (UE r (uD B c)) none) (some (iV r xs[k].Val b))
      | none=>((xs.take k).map UP).foldl (UE r (uD B c)) none
    have hF0:F 0=fun c=>((xs.take k).map UP).foldl (UE r (uD B c)) none:=rfl
    refine BH (fun (s:List (Int×AP)) j=>(s,j)) 0 ys.length (by omega) (fun j m=>yV m (fun c=>(BP c asked).getD false) (F j)) (by omega) (by rw [hF0]; exact hm) (fun j m' nx _ hj hm' hnx=>?_) (fun m' nx hm'=>?_)
    · dsimp only
      have htk:(ys.take (j+1)).map UP=(ys.take j).map UP++[UP ys[j]]:=GX hj
      have hFs:∀ c,F (j+1) c=if c=ys[j].Col then F (j+1) c else F j c:=fun c=>by
        by_cases e:c=ys[j].Col
        · rw [if_pos e]
        · rw [if_neg e]
          have:Y7 ((ys.take (j+1)).map UP) c=Y7 ((ys.take j).map UP) c:=by
            rw [htk,RV]
            have h0:Y7 [UP ys[j]] c=none:=aT fun s hs=>by simp only [List.mem_singleton] at hs; subst hs; exact fun h=>e h.symm
            rw [h0]; split <;> simp_all
          show (match Y7 ((ys.take (j+1)).map UP) c with | some b=>_ | none=>_)=_
          rw [this]
      have hnew:Y7 ((ys.take j).map UP) ys[j].Col=none:=aT fun s hs=>by
        obtain ⟨t,ht,rfl⟩:=List.mem_map.1 hs
        obtain ⟨q,hq,rfl⟩:=List.getElem_of_mem ht
        rw [List.length_take] at hq
        rw [List.getElem_take]
        have hlen:(ys.map UP).length=ys.length:=by simp
        have:=hinc.at (i:=q) (j:=j) (by omega) (by omega)
        simp only [List.getElem_map] at this
        intro h
        simp only [UP] at this h
        omega
      have hold:F j ys[j].Col=((xs.take k).map UP).foldl (UE r (uD B ys[j].Col)) none:=by
        show (match Y7 ((ys.take j).map UP) ys[j].Col with | some b=>_ | none=>_)=_
        rw [hnew]
      have hhit:F (j+1) ys[j].Col=eW r (F j ys[j].Col) (some (iV r xs[k].Val ys[j].Val)):=by
        rw [hold]
        have:Y7 ((ys.take (j+1)).map UP) ys[j].Col=some ys[j].Val:=by rw [htk,RV,hnew]; simp [PG,UP]
        show (match Y7 ((ys.take (j+1)).map UP) ys[j].Col with | some b=>_ | none=>_)=_
        rw [this]
      have hy:=hrow2 _ (List.getElem_mem hj)
      refine AD (fun _=>AM (by omega) (x:=ys[j].Col) (by simp [hj]) (AcO ?_)) (fun h=>by simp at h; omega)
      cases ha:(BP ys[j].Col asked).getD false with
      | false=>
        refine BN rfl (hnx _ ⟨fun c hc=>?_,hm'.2⟩)
        rw [hFs,if_neg (fun e=>by subst e; simp only at hc; rw [ha] at hc; cases hc)]
        exact hm'.1 c hc
      | true=>
        have hcur:=hm'.1 ys[j].Col ha
        refine AW rfl (AM (by omega) (x:=xs[k].Val) (by simp [hk]) (AM (by omega) (x:=ys[j].Val) (by simp [hj]) (oR hx.2 hy (Z4 (fun w hw=>?_) (fun hw=>?_)))))
        · refine BN rfl (WT (hm'.2 _ _ hw) (PF _ _ _) (hnx _ ⟨fun c hc=>?_,fun c u hu=>?_⟩))
          · by_cases e:c=ys[j].Col
            · subst e; rw [BM,hhit,←hcur,hw]; rfl
            · rw [BE e,hFs,if_neg e]; exact hm'.1 c hc
          · by_cases e:c=ys[j].Col
            · subst e; rw [BM] at hu; cases hu; exact UB (hm'.2 _ _ hw) (PF _ _ _)
            · rw [BE e] at hu; exact hm'.2 c u hu
        · refine AW rfl (hnx _ ⟨fun c hc=>?_,fun c u hu=>?_⟩)
          · by_cases e:c=ys[j].Col
            · subst e; rw [BM,hhit,←hcur,hw]; rfl
            · rw [BE e,hFs,if_neg e]; exact hm'.1 c hc
          · by_cases e:c=ys[j].Col
            · subst e; rw [BM] at hu; cases hu; exact PF _ _ _
            · rw [BE e] at hu; exact hm'.2 c u hu
    · dsimp only
      refine AD (fun h=>by simp at h) (fun _=>hn _ ⟨fun c hc=>?_,hm'.2⟩)
      rw [hm'.1 c hc,GX hk]
      show F ys.length c=List.foldl (UE r (uD B c)) none ((xs.take k).map UP++[UP xs[k]])
      rw [List.foldl_append]
      show (match Y7 ((ys.take ys.length).map UP) c with | some b=>_ | none=>_)=UE r (uD B c) _ (UP xs[k])
      rw [List.take_length,←hbat c]
      unfold UE
      simp only [UP]
      all_goals (split <;> simp_all)
  · dsimp only
    rw [List.take_length] at hm
    exact AD (fun h=>by simp at h) (fun _=>hQ m hm)
def rS (r ra ca rb cb rm cm:Int) (A B M:List AC):List AK×Int:=
  if ¬(1≤r∧r≤5) then ([],8) else if ca≠rb∨rm≠ra∨cm≠cb then ([],4) else (GH r A B M,0)
theorem vU (r:Int) (A B M:List AC):(GH r A B M).length≤M.length:=List.length_filterMap_le _ _
theorem yW {T:List AC} {i lo hi:Nat} (s:Seg T i lo hi):T.take hi=T.take lo++KH T i:=by
  have h:=List.take_append_drop lo (T.take hi)
  rw [s.eq,List.take_take,Nat.min_eq_left s.le] at h
  exact h.symm
theorem iW {r ra ca rb cb rm cm:Int} {A B M:List AC} {Q:List AK×Int→Prop} (hA:Canon ra ca A) (hB:Canon rb cb B) (hM:Canon rm cm M) (hvA:∀ t∈A,JO t.Val) (hvB:∀ t∈B,JO t.Val)
    (hQ:Q (rS r ra ca rb cb rm cm A B M)):RK r (BF ra ca A) (BF rb cb B) (BF rm cm M) Q:=by
  unfold RK
  refine mB (by simp) (fun a ha=>?_) (AM (by omega) rfl (AM (by omega) rfl (AM (by omega) rfl (LN ?_))))
  · simp only [List.mem_cons,List.not_mem_nil,or_false] at ha
    rcases ha with rfl | rfl | rfl
    · exact ⟨hA.sml,hA.right⟩
    · exact ⟨hB.sml,hB.right⟩
    · exact ⟨hM.sml,hM.right⟩
  unfold rS at hQ
  refine CR (fun h=>?_) (fun h=>?_)
  · rwa [if_pos (of_decide_eq_false h)] at hQ
  have hr:=of_decide_eq_true h
  rw [if_neg (fun h=>h hr)] at hQ
  have hbad (hb:ca≠rb∨rm≠ra∨cm≠cb):Q ([],4):=by rwa [if_pos hb] at hQ
  refine EW (fun h=>hbad (.inl h)) (fun h1=>EW (fun h=>hbad (.inr (.inl h))) (fun h2=>EW (fun h=>hbad (.inr (.inr h))) (fun h3=>?_)))
  have h1:ca=rb:=h1
  have h2:rm=ra:=h2
  have h3:cm=cb:=h3
  rw [if_neg (by omega)] at hQ
  have hrm:=hM.r0; have hrm1:=hM.r1; have hMl:=hM.len
  obtain ⟨n,hn⟩:∃ n:Nat,rm=(n:Int):=⟨rm.toNat,by omega⟩
  have hR:(BF rm cm M).Rows=(n:Int):=hn
  rw [hR]
  refine BH (fun (s:List AK) i=>(s,i)) 0 n (by omega) (fun i s=>s=(M.take (EG M i).toNat).filterMap (KU r A B)) (by omega) (by rw [Z7 (fun t ht=>(hM.inn t ht).1)]; rfl) (fun i s next _ hi hm hnx=>?_) (fun s next hm=>?_)
  · subst hm
    dsimp only
    obtain ⟨lo,hi',sg⟩:=hM.seg i
    have hlo:=sg.lo; have hhi:=sg.hi; have hle:=sg.le; have hlen:=sg.len
    have htk:=yW sg
    rw [show (EG M i).toNat=lo by omega]
    have hnx':=hnx ((M.take lo).filterMap (KU r A B)++(KH M i).filterMap (KU r A B)) (by rw [show (EG M (i+1)).toNat=hi' by omega,htk,List.filterMap_append])
    clear hnx
    have hrow:∀ t∈KH M i,t.Row=(i:Int):=fun t ht=>of_decide_eq_true (List.mem_filter.1 ht).2
    have hout:((M.take lo).filterMap (KU r A B)).length≤65536:=by
      have:=List.length_filterMap_le (KU r A B) (M.take lo)
      rw [List.length_take] at this; omega
    have hsl:=OB M i
    refine AD (fun _=>VH hM (by omega) ?_) (fun h=>by omega)
    generalize (M.take lo).filterMap (KU r A B)=out at hnx' hout ⊢
    generalize KH M i=xs at hnx' hrow hsl ⊢
    refine BH (fun (s:List (Int×Bool)) k=>(s,k)) 0 xs.length (by omega) (fun k m=>∀ q (hq:q<xs.length),q<k→BP xs[q].Col m=some true) (by omega) (fun q hq h=>by omega) (fun k m nx _ hk hm hnk=>?_) (fun m nx hm=>?_)
    · dsimp only
      refine AD (fun _=>AM (by omega) (x:=xs[k].Col) (by simp [hk]) (hnk _ fun q hq hqk=>?_)) (fun h=>by simp at h; omega)
      by_cases e:xs[q].Col=xs[k].Col
      · rw [e,BM]
      · rw [BE e]
        refine hm q hq ?_
        by_cases e2:q=k
        · subst e2; exact absurd rfl e
        · omega
    · dsimp only
      refine AD (fun h=>by simp at h) (fun _=>?_)
      refine oV hA hB (by omega) (by omega) hr hvA hvB fun sums hsums=>?_
      refine BH (fun (s:List AK) k=>(s,k)) 0 xs.length (by omega) (fun k s=>s=out++(xs.take k).filterMap (KU r A B)) (by omega) (by simp) (fun k s ny _ hk hm2 hny=>?_) (fun s ny hm2=>?_)
      · subst hm2
        dsimp only
        have hlk:=List.length_filterMap_le (KU r A B) (xs.take k)
        rw [List.length_take] at hlk
        have hask:=hm k hk hk
        have hcur:=hsums.1 xs[k].Col (by simp only [hask]; rfl)
        have hcell:KU r A B xs[k]=(NL r A B i xs[k].Col).map fun w=>⟨(i:Int),xs[k].Col,w⟩:=by
          unfold KU; rw [hrow _ (List.getElem_mem hk)]
        have hstep:(xs.take (k+1)).filterMap (KU r A B)=(xs.take k).filterMap (KU r A B)++(KU r A B xs[k]).toList:=by
          rw [List.take_succ_eq_append_getElem hk,List.filterMap_append]
          congr 1
        refine AD (fun _=>AM (by omega) (x:=xs[k].Col) (by simp [hk]) (Z4 (fun w hw=>?_) (fun hw=>?_))) (fun h=>by simp at h; omega)
        · refine BN rfl (BI (by simp; omega) (hny _ ?_))
          rw [hstep,hcell,←hcur,hw,List.append_assoc]; rfl
        · refine AW rfl (hny _ ?_)
          rw [hstep,hcell,←hcur,hw]; simp
      · subst hm2
        dsimp only
        rw [List.take_length]
        exact AD (fun h=>by simp at h) (fun _=>hnx')
  · subst hm
    dsimp only
    refine AD (fun h=>by omega) (fun _=>?_)
    have:=cD hM
    rw [show rm.toNat=n by omega] at this
    rw [this,Int.toNat_natCast,List.take_length]
    exact hQ
end Go.Proofs.YtbohadngdkjljaaGreat
