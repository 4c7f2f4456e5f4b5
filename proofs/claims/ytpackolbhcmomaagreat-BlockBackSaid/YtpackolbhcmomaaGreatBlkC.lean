import Derived.Test.YtpackolbhcmomaaGreatPushG
namespace Go.Proofs.YtpackolbhcmomaaGreat
open Go Go.Fw
set_option linter.unusedVariables false
set_option linter.unusedSimpArgs false
theorem leW_trans {a b c:Wide} (h:leW a b) (h':leW b c):leW a c:=by unfold leW at *; omega
def minW (a b:Wide):Wide:=if leW a b then a else b
theorem minW_assoc (a b c:Wide):minW (minW a b) c=minW a (minW b c):=by
  unfold minW
  by_cases h1:leW a b <;> by_cases h2:leW b c <;> by_cases h3:leW a c <;> simp only [h1,h2,h3,if_true,if_false]
  · exact absurd (leW_trans h1 h2) h3
  · exfalso; unfold leW at *; omega
theorem addW_assoc {r:Int} {a b c:Wide} (ha:okW a) (hb:okW b) (hc:okW c):addW r (addW r a b) c=addW r a (addW r b c):=by
  by_cases h:r=1∨r=3∨r=4
  · have e:∀ a b,addW r a b=minW a b:=fun a b=>by unfold addW minW; rw [if_pos h]
    simp only [e]; exact minW_assoc a b c
  · by_cases h2:r=2
    · have e:∀ a b,addW r a b=if a=⟨0,0⟩∧b=⟨0,0⟩ then ⟨0,0⟩ else ⟨0,1⟩:=fun a b=>by unfold addW; rw [if_neg h,if_pos h2]
      have n1:(⟨0,1⟩:Wide)≠⟨0,0⟩:=by decide
      simp only [e]
      by_cases e1:a=⟨0,0⟩ <;> by_cases e2:b=⟨0,0⟩ <;> by_cases e3:c=⟨0,0⟩ <;> simp [e1,e2,e3]
    · by_cases h5:r=5
      · subst h5
        rw [okW_toZ ha,okW_toZ hb,okW_toZ hc,ofZ_add,ofZ_add,ofZ_add,ofZ_add,Int.add_assoc]
      · unfold addW
        simp only [if_neg h,if_neg h2,if_neg h5]
def okO (o:Option Wide):Prop:=∀ w,o=some w→okW w
theorem cmb_assoc {r:Int} {a b c:Option Wide} (ha:okO a) (hb:okO b) (hc:okO c):cmb r (cmb r a b) c=cmb r a (cmb r b c):=by
  cases a with
  | none=>cases b <;> rfl
  | some x=>cases b with
    | none=>cases c <;> rfl
    | some y=>cases c with
      | none=>rfl
      | some z=>simp only [cmb]; rw [addW_assoc (ha x rfl) (hb y rfl) (hc z rfl)]
theorem rowW_succ (r:Int) (n:Nat) (A B:Int→Option Int):rowW r (n+1) A B=stepW r A B (rowW r n A B) n:=by
  unfold rowW; rw [List.range_succ,List.foldl_append]; rfl
theorem rowW_add (r:Int) (k:Nat) (A B:Int→Option Int):∀ m:Nat,rowW r (k+m) A B=cmb r (rowW r k A B) (rowW r m (fun j=>A (j+k)) (fun j=>B (j+k)))
  | 0=>by rw [Nat.add_zero,show rowW r 0 (fun j=>A (j+k)) (fun j=>B (j+k))=none from rfl,cmb_none]
  | m+1=>by
    rw [←Nat.add_assoc,rowW_succ,rowW_succ,rowW_add r k A B m]
    have ho:=rowW_okW r m (fun j=>A (j+k)) (fun j=>B (j+k))
    generalize rowW r m (fun j=>A (j+k)) (fun j=>B (j+k))=o at ho ⊢
    unfold stepW
    rw [show (((k+m:Nat):Int))=(m:Int)+k by omega]
    simp only
    cases hA:A ((m:Int)+k) with
    | none=>rfl
    | some a=>cases hB:B ((m:Int)+k) with
      | none=>rfl
      | some x=>
        have hm:okO (some (mulW r a x)):=fun w hw=>by
          have:=Option.some.inj hw
          subst this; exact mulW_okW _ _ _
        exact cmb_assoc (rowW_okW r k A B) ho hm
theorem rowW_congr {r:Int} {n:Nat} {A A' B B':Int→Option Int} (hA:∀ j:Nat,j<n→A j=A' j) (hB:∀ j:Nat,j<n→B j=B' j):rowW r n A B=rowW r n A' B':=by
  unfold rowW
  refine foldl_same fun acc k hk=>?_
  have hk:=List.mem_range.1 hk
  unfold stepW
  rw [hA k hk,hB k hk]
theorem lkI_iff {l:List Item} (h:IncI l) {i a:Int}:lkI l i=some a↔(⟨i,a⟩:Item)∈l:=⟨lkI_mem,fun hm=>mem_lkI h hm⟩
theorem opt_ext {x y:Option Int} (h:∀ a,x=some a↔y=some a):x=y:=by
  cases x with
  | none=>cases y with
    | none=>rfl
    | some b=>have:=(h b).2 rfl; cases this
  | some a=>exact ((h a).1 rfl).symm
def partV (u:Vec) (a b:Int):Vec:=
  if (if u.N<b then u.N else b)≤(if 0 > a then 0 else a) then zV
  else ⟨(if u.N<b then u.N else b) - (if 0 > a then 0 else a),(u.Items.filter fun x=>decide ((if 0 > a then 0 else a)≤x.At∧x.At<(if u.N<b then u.N else b))).map fun x=>⟨x.At - (if 0 > a then 0 else a),x.Val⟩⟩
theorem part_is {u:Vec} (h:VecP u) {a b:Int} (h0:0≤a) (h1:a≤b) (h2:b≤u.N):partV u a b=⟨b - a,(u.Items.filter fun x=>decide (a≤x.At∧x.At<b)).map fun x=>⟨x.At - a,x.Val⟩⟩:=by
  unfold partV
  have e1:(if 0 > a then 0 else a)=a:=if_neg (by omega)
  have e2:(if u.N<b then u.N else b)=b:=if_neg (by omega)
  rw [e1,e2]
  split
  · have:b=a:=by omega
    subst this
    rw [List.filter_eq_nil_iff.2 (fun x _=>by simp only [decide_eq_true_eq]; omega)]
    simp [zV]
  · rfl
theorem part_prop {u:Vec} (h:VecP u) {a b:Int} (h0:0≤a) (h1:a≤b) (h2:b≤u.N):VecP (partV u a b)∧(partV u a b).N=b - a∧(∀ j,0≤j→j<b - a→lkI (partV u a b).Items j=lkI u.Items (j+a))∧((∀ x∈u.Items,inI x.Val)→∀ x∈(partV u a b).Items,inI x.Val):=by
  rw [part_is h h0 h1 h2]
  have hn1:=h.n1
  have hmem:∀ x:Item,x∈((u.Items.filter fun x=>decide (a≤x.At∧x.At<b)).map fun x=>(⟨x.At - a,x.Val⟩:Item))↔(⟨x.At+a,x.Val⟩:Item)∈u.Items∧0≤x.At∧x.At+a<b:=by
    intro x
    simp only [List.mem_map,List.mem_filter,decide_eq_true_eq]
    constructor
    · rintro ⟨y,⟨hy,hc⟩,rfl⟩
      simp only
      rw [show y.At - a+a=y.At by omega]
      exact ⟨hy,by omega,by omega⟩
    · rintro ⟨hy,hc⟩
      refine ⟨_,⟨hy,by simp only; omega⟩,?_⟩
      cases x; simp only [Item.mk.injEq]; exact ⟨by omega,trivial⟩
  have hinc:IncI ((u.Items.filter fun x=>decide (a≤x.At∧x.At<b)).map fun x=>(⟨x.At - a,x.Val⟩:Item)):=by
    unfold IncI
    rw [List.pairwise_map]
    exact List.Pairwise.imp (fun {x y} hxy=>by simp only; omega) (List.Pairwise.filter _ h.inc)
  refine ⟨⟨by simp only; omega,by simp only; omega,hinc,fun x hx=>by have:=(hmem x).1 hx; simp only; omega⟩,rfl,fun j hj0 hj1=>opt_ext fun w=>?_,fun hv x hx=>?_⟩
  · rw [lkI_iff hinc,lkI_iff h.inc,hmem]
    exact ⟨fun hh=>hh.1,fun hh=>⟨hh,by simp only; omega⟩⟩
  · have:=hv _ ((hmem x).1 hx).1
    exact this
def mayP (n k:Int):Prop:=(0≤n∧n≤4096)∧(1≤k∧k≤8)
instance (n k:Int):Decidable (mayP n k):=by unfold mayP; infer_instance
def clI (i k:Int):Int:=if i<0 then 0 else if k<i then k else i
def lowS (n k i:Int):Int:=if mayP n k then clI i k*n / k else 0
theorem clI_b {i k:Int} (h:1≤k):0≤clI i k∧clI i k≤k:=by unfold clI; split <;> (try split) <;> omega
theorem clI_mono {i j k:Int} (h:i≤j) (hk:1≤k):clI i k≤clI j k:=by unfold clI; split <;> split <;> (try split) <;> (try split) <;> omega
theorem mul_b {i k n:Int} (hk:1≤k∧k≤8) (hn:0≤n∧n≤4096) (hi:0≤i∧i≤k):0≤i*n∧i*n≤32768:=by
  refine ⟨Int.mul_nonneg hi.1 hn.1,?_⟩
  have:=Int.mul_le_mul (show i≤8 by omega) hn.2 hn.1 (by omega)
  omega
theorem low_mono {n k i j:Int} (h:i≤j):lowS n k i≤lowS n k j:=by
  unfold lowS
  by_cases hm:mayP n k
  · rw [if_pos hm,if_pos hm]
    exact Int.ediv_le_ediv (by have:=hm.2; omega) (Int.mul_le_mul_of_nonneg_right (clI_mono h hm.2.1) hm.1.1)
  · rw [if_neg hm,if_neg hm]; exact Int.le_refl _
theorem low_zero (n k:Int):lowS n k 0=0:=by
  unfold lowS clI; split
  · rename_i hm
    have h1:=hm.2.1
    rw [if_neg (by omega),if_neg (by omega),Int.zero_mul,Int.zero_ediv]
  · rfl
theorem low_top {n k:Int} (h:mayP n k):lowS n k k=n:=by
  unfold lowS clI
  have h1:=h.2.1
  rw [if_pos h,if_neg (by omega),if_neg (by omega),Int.mul_comm,Int.mul_ediv_cancel _ (by omega)]
theorem low_b {n k i:Int}:0≤lowS n k i∧(0≤n→lowS n k i≤n):=by
  by_cases hm:mayP n k
  · have hc:=clI_b (i:=i) hm.2.1
    refine ⟨?_,fun _=>?_⟩
    · unfold lowS; rw [if_pos hm]; exact Int.ediv_nonneg (Int.mul_nonneg hc.1 hm.1.1) (by have:=hm.2; omega)
    · by_cases hi:i≤k
      · have:=low_mono (n:=n) hi (k:=k); rwa [low_top hm] at this
      · have h1:=hm.2.1
        have e:lowS n k i=n:=by
          unfold lowS clI
          rw [if_pos hm,if_neg (by omega),if_pos (by omega),Int.mul_comm,Int.mul_ediv_cancel _ (by omega)]
        omega
  · unfold lowS; rw [if_neg hm]; exact ⟨by omega,fun h=>h⟩
theorem filter_or_perm {α:Type} {p q r:α→Bool}:∀ {l:List α},(∀ x∈l,r x=(p x || q x))→(∀ x∈l,¬(p x=true∧q x=true))→(l.filter p++l.filter q).Perm (l.filter r)
  | [],_,_=>by simp
  | x :: l,h,h'=>by
    have ih:=filter_or_perm (fun y hy=>h y (List.mem_cons_of_mem _ hy)) (fun y hy=>h' y (List.mem_cons_of_mem _ hy))
    have hx:=h x List.mem_cons_self
    have hx':=h' x List.mem_cons_self
    cases hp:p x with
    | true=>
      cases hq:q x with
      | true=>exact absurd ⟨hp,hq⟩ hx'
      | false=>
        rw [List.filter_cons_of_pos hp,List.filter_cons_of_neg (by simp [hq]),List.filter_cons_of_pos (by rw [hx,hp]; rfl)]
        exact ih.cons x
    | false=>
      cases hq:q x with
      | true=>
        rw [List.filter_cons_of_neg (by simp [hp]),List.filter_cons_of_pos hq,List.filter_cons_of_pos (by rw [hx,hp,hq]; rfl)]
        exact List.perm_middle.trans (ih.cons x)
      | false=>
        rw [List.filter_cons_of_neg (by simp [hp]),List.filter_cons_of_neg (by simp [hq]),List.filter_cons_of_neg (by rw [hx,hp,hq]; simp)]
        exact ih
theorem strips_perm {α:Type} {f:α→Int} {b:Nat→Int} {l:List α} (hm:∀ i j,i≤j→b i≤b j) (h0:∀ x∈l,b 0≤f x):∀ m:Nat,
    ((List.range m).flatMap fun i=>l.filter fun x=>decide (b i≤f x∧f x<b (i+1))).Perm (l.filter fun x=>decide (f x<b m))
  | 0=>by
    rw [List.filter_eq_nil_iff.2 (fun x hx=>by have:=h0 x hx; simp only [decide_eq_true_eq]; omega)]; simp
  | m+1=>by
    rw [List.range_succ,List.flatMap_append,List.flatMap_singleton]
    refine ((strips_perm hm h0 m).append_right _).trans (filter_or_perm (fun x hx=>?_) (fun x hx=>?_))
    · have:=hm m (m+1) (by omega)
      rw [Bool.eq_iff_iff]
      simp only [Bool.or_eq_true,decide_eq_true_eq]; omega
    · simp only [decide_eq_true_eq]; omega
theorem flatMap_perm {α β:Type} {f g:α→List β}:∀ {l:List α},(∀ x∈l,(f x).Perm (g x))→(l.flatMap f).Perm (l.flatMap g)
  | [],_=>by simp
  | x :: l,h=>by
    rw [List.flatMap_cons,List.flatMap_cons]
    exact (h x List.mem_cons_self).append (flatMap_perm fun y hy=>h y (List.mem_cons_of_mem _ hy))
theorem flatMap_same {α β:Type} {f g:α→List β} {l:List α} (h:∀ x∈l,f x=g x):l.flatMap f=l.flatMap g:=by
  induction l with
  | nil=>rfl
  | cons x l ih=>rw [List.flatMap_cons,List.flatMap_cons,h x List.mem_cons_self,ih fun y hy=>h y (List.mem_cons_of_mem _ hy)]
theorem grid_flat {β:Type} {q:Nat} (hq:0<q) (F:Nat→Nat→List β):∀ p:Nat,((List.range (p*q)).flatMap fun k=>F (k / q) (k % q))=(List.range p).flatMap fun i=>(List.range q).flatMap fun j=>F i j
  | 0=>by simp
  | p+1=>by
    rw [Nat.succ_mul,List.range_add,List.flatMap_append,grid_flat hq F p,List.range_succ,List.flatMap_append,List.flatMap_singleton,List.flatMap_map]
    congr 1
    refine flatMap_same fun j hj=>?_
    have hj:=List.mem_range.1 hj
    rw [Nat.mul_comm p q,Nat.mul_add_div hq,Nat.div_eq_of_lt hj,Nat.mul_add_mod,Nat.mod_eq_of_lt hj,Nat.add_zero]
def shT (a b:Int) (t:Triple):Triple:=⟨t.Row+a,t.Col+b,t.Val⟩
theorem cut_back {l h c d:Int} {T:List Triple}:(cutT l h c d T).map (shT l c)=T.filter fun t=>decide ((l≤t.Row∧t.Row<h)∧(c≤t.Col∧t.Col<d)):=by
  unfold cutT
  rw [List.map_map]
  conv=>rhs; rw [←List.map_id (List.filter _ T)]
  refine List.map_congr_left fun t _=>?_
  cases t; simp only [Function.comp_apply,shT,id_eq,Triple.mk.injEq]; exact ⟨by omega,by omega,trivial⟩
theorem blocks_perm {rows cols:Int} {T:List Triple} (h:Canon rows cols T) {p q:Nat} (hp:mayP rows p) (hq:mayP cols q) :
    ((List.range p).flatMap fun i:Nat=>(List.range q).flatMap fun j:Nat=>(cutT (lowS rows p i) (lowS rows p ((i:Int)+1)) (lowS cols q j) (lowS cols q ((j:Int)+1)) T).map (shT (lowS rows p i) (lowS cols q j))).Perm T:=by
  have e:∀ i:Nat,((List.range q).flatMap fun j:Nat=>(cutT (lowS rows p i) (lowS rows p ((i:Int)+1)) (lowS cols q j) (lowS cols q ((j:Int)+1)) T).map (shT (lowS rows p i) (lowS cols q j))).Perm (T.filter fun t=>decide (lowS rows p i≤t.Row∧t.Row<lowS rows p ((i:Int)+1))):=by
    intro i
    have h1:=strips_perm (f:=fun t:Triple=>t.Col) (b:=fun j:Nat=>lowS cols q j) (l:=T.filter fun t=>decide (lowS rows p i≤t.Row∧t.Row<lowS rows p ((i:Int)+1))) (fun i j hij=>low_mono (by omega)) (fun t ht=>by
      have:=(h.inn t (List.mem_filter.1 ht).1).2.2.1
      simp only [Int.natCast_zero]; rw [low_zero]; exact this) q
    refine List.Perm.trans (List.Perm.of_eq (flatMap_same fun j _=>?_)) (h1.trans (List.Perm.of_eq ?_))
    · rw [cut_back,List.filter_filter]
      refine List.filter_congr fun t _=>?_
      rw [Bool.eq_iff_iff]
      simp only [Bool.and_eq_true,decide_eq_true_eq,Int.natCast_add,Int.natCast_one]
      exact ⟨fun h=>⟨h.2,h.1⟩,fun h=>⟨h.2,h.1⟩⟩
    · refine List.filter_eq_self.2 fun t ht=>?_
      have:=(h.inn t (List.mem_filter.1 ht).1).2.2.2
      rw [low_top hq]; simpa using this
  refine (flatMap_perm fun i _=>e i).trans ?_
  have h1:=strips_perm (f:=fun t:Triple=>t.Row) (b:=fun j:Nat=>lowS rows p j) (l:=T) (fun i j hij=>low_mono (by omega)) (fun t ht=>by
    have:=(h.inn t ht).1
    simp only [Int.natCast_zero]; rw [low_zero]; exact this) p
  refine h1.trans (List.Perm.of_eq ?_)
  refine List.filter_eq_self.2 fun t ht=>?_
  have:=(h.inn t ht).2.1
  rw [low_top hp]; simpa using this
theorem toQ {P:Prop} [Decidable P] {b:Bool} {Q:Bool→Prop} (hQ:Q (decide P)) (h:b=true↔P):Q b:=by
  have:decide P=b:=by rw [Bool.eq_iff_iff,decide_eq_true_iff]; exact h.symm
  rwa [this] at hQ
theorem part_may_ok {n k:Int} {Q:Bool→Prop} (hQ:Q (decide (mayP n k))):part_may n k Q:=by
  unfold part_may part_side
  refine ifP_dec (fun a=>ifP_dec (fun b=>ifP_dec (fun c=>toQ hQ ?_) (fun c=>toQ hQ ?_)) (fun b=>toQ hQ ?_)) (fun a=>toQ hQ ?_) <;> (unfold mayP; simp; omega)
theorem part_Low_ok {n k i:Int} {Q:Int→Prop} (hQ:Q (lowS n k i)):part_Low n k i Q:=by
  unfold part_Low
  unfold lowS at hQ
  refine part_may_ok (ifP_not (fun h=>?_) (fun h=>?_))
  · rwa [if_neg (of_decide_eq_false h)] at hQ
  · have hm:=of_decide_eq_true h
    rw [if_pos hm] at hQ
    have e:(if k<(if 0 > i then 0 else i) then k else (if 0 > i then 0 else i))=clI i k:=by
      unfold clI; have:=hm.2; split <;> split <;> (try split) <;> (try split) <;> omega
    rw [e]
    have hb:=mul_b hm.2 hm.1 (clI_b (i:=i) hm.2.1)
    have hk:=hm.2
    refine ⟨by omega,?_⟩
    rw [w64_id (x:=clI i k*n) (by omega) (by omega),Int.tdiv_eq_ediv_of_nonneg hb.1]
    have h1:0≤clI i k*n / k:=Int.ediv_nonneg hb.1 (by omega)
    have h2:clI i k*n / k≤clI i k*n:=Int.ediv_le_self _ hb.1
    rwa [w64_id (by omega) (by omega)]
theorem low_le (n k i:Int):0≤lowS n k i∧lowS n k i≤4096:=by
  by_cases hm:mayP n k
  · have h:=low_b (n:=n) (k:=k) (i:=i)
    have:=h.2 hm.1.1
    have:=hm.1.2
    exact ⟨h.1,by omega⟩
  · unfold lowS; rw [if_neg hm]; omega
def sizS (n k i:Int):Int:=if 0≤i∧i<k then lowS n k (i+1) - lowS n k i else 0
theorem low_w {n k i:Int} (h0:0≤i) (h:i<k):lowS n k (w64 (i+1))=lowS n k (i+1):=by
  by_cases hm:mayP n k
  · have:=hm.2
    rw [w64_id (by omega) (by omega)]
  · unfold lowS; rw [if_neg hm,if_neg hm]
theorem part_Size_ok {n k i:Int} {Q:Int→Prop} (hQ:Q (sizS n k i)):part_Size n k i Q:=by
  unfold part_Size
  unfold sizS at hQ
  refine ifP_dec (fun h=>?_) (fun h=>ifP_dec (fun h'=>?_) (fun h'=>part_Low_ok (part_Low_ok ?_)))
  · rwa [if_neg (by omega)] at hQ
  · rwa [if_neg (by omega)] at hQ
  · rw [if_pos (by omega)] at hQ
    have h1:=low_le n k (i+1); have h2:=low_le n k i
    rw [low_w (by omega) (by omega),w64_id (by omega) (by omega)]; exact hQ
def sideP (k:Int):Prop:=1≤k∧k≤8
instance (k:Int):Decidable (sideP k):=by unfold sideP; infer_instance
def gridP (r c i j:Int):Prop:=(sideP r∧sideP c)∧(0≤i∧i<r)∧0≤j∧j<c
instance (r c i j:Int):Decidable (gridP r c i j):=by unfold gridP; infer_instance
theorem block_side_ok {k:Int} {Q:Bool→Prop} (hQ:Q (decide (sideP k))):block_side k Q:=by
  unfold block_side
  refine ifP_dec (fun a=>toQ hQ ?_) (fun a=>toQ hQ ?_) <;> (unfold sideP; simp; omega)
theorem block_grid_ok {r c i j:Int} {Q:Bool→Prop} (hQ:Q (decide (gridP r c i j))):block_grid r c i j Q:=by
  unfold block_grid
  refine block_side_ok (ifP_dec (fun a=>block_side_ok (ifP_dec (fun b=>ifP_dec (fun d=>ifP_dec (fun e=>ifP_dec (fun f=>toQ hQ ?_) (fun f=>toQ hQ ?_)) (fun e=>toQ hQ ?_)) (fun d=>toQ hQ ?_)) (fun b=>toQ hQ ?_))) (fun a=>toQ hQ ?_)) <;> (unfold gridP; unfold sideP at *; simp only [Bool.false_eq_true,decide_eq_true_eq,false_iff]; omega)
theorem block_within_ok {n:Int} {Q:Bool→Prop} (hQ:Q (decide (0≤n∧n≤4096))):block_within n Q:=by
  unfold block_within
  refine ifP_dec (fun a=>toQ hQ ?_) (fun a=>toQ hQ ?_) <;> (simp; omega)
theorem block_bounds_ok {n k i:Int} {Q:Int×Int→Prop} (h0:0≤i) (h:i<k) (hQ:Q (lowS n k i,lowS n k (i+1))):block_bounds n k i Q:=by
  unfold block_bounds
  refine part_Low_ok (part_Low_ok ?_)
  rw [low_w h0 h]; exact hQ
def cutG (rows cols:Int) (T:List Triple) (r c i j:Int):Rows:=if gridP r c i j then cutS rows cols T (lowS rows r i,lowS rows r (i+1)) (lowS cols c j,lowS cols c (j+1)) else builtS 0 0 []
theorem sure_zR:sureS zR=builtS 0 0 []:=if_neg zR_wrong
theorem cut_none:cutS 0 0 [] (0,0) (0,0)=builtS 0 0 []:=by decide
theorem csr_cut_none {Q:Rows→Prop} (hQ:Q (builtS 0 0 [])):csr_Cut zR (0,0) (0,0) Q:=by
  refine csr_cut_ok small_zR sure_zR canon_empty ?_
  rw [cut_none]; exact hQ
theorem block_Cut_ok {rows cols r c i j:Int} {T:List Triple} {Q:Rows→Prop} (h:Canon rows cols T) (hQ:Q (cutG rows cols T r c i j)):block_Cut (builtS rows cols T) r c i j Q:=by
  unfold block_Cut
  unfold cutG at hQ
  refine right_ok h.sml ?_
  rw [decide_eq_true h.right]
  refine ifP_neg rfl (block_grid_ok (ifP_not (fun hg=>?_) (fun hg=>?_)))
  · rw [if_neg (of_decide_eq_false hg)] at hQ
    exact csr_cut_none hQ
  · have hg:=of_decide_eq_true hg
    rw [if_pos hg] at hQ
    exact block_bounds_ok hg.2.1.1 hg.2.1.2 (block_bounds_ok hg.2.2.1 hg.2.2.2 (csr_cut_ok h.sml (sure_built h) h hQ))
theorem cutG_canon {rows cols r c i j:Int} {T:List Triple} (h:Canon rows cols T) (hg:gridP r c i j):cutG rows cols T r c i j=builtS (sizS rows r i) (sizS cols c j) (cutT (lowS rows r i) (lowS rows r (i+1)) (lowS cols c j) (lowS cols c (j+1)) T)∧Canon (sizS rows r i) (sizS cols c j) (cutT (lowS rows r i) (lowS rows r (i+1)) (lowS cols c j) (lowS cols c (j+1)) T):=by
  have hc:=cut_canon h (lowS rows r i,lowS rows r (i+1)) (lowS cols c j,lowS cols c (j+1))
  have e:∀ {n k x:Int},0≤n→0≤x∧x<k→cLo (lowS n k x)=lowS n k x∧cHi (lowS n k (x+1)) n=lowS n k (x+1)∧ext (lowS n k x) (lowS n k (x+1)) n=sizS n k x:=by
    intro n k x hn hx
    have h1:=low_b (n:=n) (k:=k) (i:=x); have h2:=low_b (n:=n) (k:=k) (i:=x+1)
    have h3:=low_mono (n:=n) (k:=k) (show x≤x+1 by omega)
    have h4:=h2.2 hn
    have e1:cLo (lowS n k x)=lowS n k x:=by unfold cLo; split <;> omega
    have e2:cHi (lowS n k (x+1)) n=lowS n k (x+1):=by unfold cHi; split <;> omega
    refine ⟨e1,e2,?_⟩
    unfold ext sizS
    rw [e1,e2,if_pos hx]
    split <;> omega
  obtain ⟨a1,a2,a3⟩:=e h.r0 hg.2.1
  obtain ⟨b1,b2,b3⟩:=e h.c0 hg.2.2
  simp only [a1,a2,a3,b1,b2,b3] at hc
  refine ⟨?_,hc⟩
  unfold cutG
  rw [if_pos hg]
  unfold cutS
  simp only [a1,a2,a3,b1,b2,b3]
theorem bmid_eq {a b:Int} (h0:0≤a) (h1:0≤b) (h2:a≤1000000) (h3:b≤1000000):w64 (shr .u64 (IntKind.wrap .u64 (w64 (a+b))) 1)=(a+b) / 2:=by
  have e:∀ i:Int,shr .u64 i 1=i / 2:=fun i=>shr_u 1 (by omega)
  rw [w64_id (x:=a+b) (by omega) (by omega),wrap_u64_id (by omega) (by omega),e,w64_id (by omega) (by omega)]
theorem bcmpc_neg (x y:Int):cmpc x y<0↔x<y:=by unfold cmpc; split <;> (try split) <;> omega
theorem spvec_find_ok {w:Vec} {i:Int} {Q:Int×Bool→Prop} (hP:VecP w) (hQ:∀ (m:Nat) b,m≤w.Items.length→(∀ (k:Nat) (hk:k<w.Items.length),k<m→(w.Items[k]).At<i)→(∀ (k:Nat) (hk:k<w.Items.length),m≤k→¬(w.Items[k]).At<i)→Q (m,b)):spvec_find w i Q:=by
  have hi:=hP.inc
  have hlen:=hP.len
  unfold spvec_find slices_BinarySearchFunc_api_Item_api_Item_int_8a3 spvec_order_7ac
  refine loop_intro (fun s:Int×Int=>0≤s.1∧s.1≤s.2∧s.2≤w.Items.length∧(∀ (k:Nat) (hk:k<w.Items.length),(k:Int)<s.1→(w.Items[k]).At<i)∧(∀ (k:Nat) (hk:k<w.Items.length),s.2≤(k:Int)→¬(w.Items[k]).At<i)) (fun s=>(s.2 - s.1).toNat) ⟨by simp,by simp,by simp,fun k hk h=>by simp at h; omega,fun k hk h=>by simp at h; omega⟩ ?_
  rintro ⟨a,b⟩ next ⟨h0,h1,h2,h3,h4⟩ hn
  simp only at h0 h1 h2 h3 h4
  refine ifP_dec (fun hab=>?_) (fun hab=>?_)
  · rw [bmid_eq h0 (by omega) (by omega) (by omega)]
    obtain ⟨m,hm⟩:∃ m:Nat,(a+b) / 2=(m:Int):=⟨((a+b) / 2).toNat,by omega⟩
    rw [hm]
    have hml:m<w.Items.length:=by omega
    refine idxP_nat hml (cmp_int_ok (ifP_dec (fun hc=>?_) (fun hc=>?_)))
    · rw [bcmpc_neg] at hc
      rw [w64_id (by omega) (by omega)]
      refine hn _ ⟨by simp only; omega,by simp only; omega,h2,fun k hk hkm=>?_,h4⟩ (by simp only; omega)
      simp only at hkm
      by_cases e:k=m
      · subst e; exact hc
      · have:=hi.at hml (by omega:k<m); omega
    · rw [bcmpc_neg] at hc
      refine hn _ ⟨h0,by simp only; omega,by simp only; omega,h3,fun k hk hkm=>?_⟩ (by simp only; omega)
      simp only at hkm
      by_cases e:k=m
      · subst e; exact hc
      · have:=hi.at hk (by omega:m<k); omega
  · have hab':a=b:=by omega
    subst hab'
    obtain ⟨m,rfl⟩:∃ m:Nat,a=(m:Int):=⟨a.toNat,by omega⟩
    have hfin:∀ b,Q ((m:Int),b):=fun b=>hQ m b (by omega) (fun k hk h=>h3 k hk (by omega)) (fun k hk h=>h4 k hk (by omega))
    exact ifP_dec (fun hm=>idxP_nat (by omega) (cmp_int_ok (hfin _))) (fun hm=>hfin _)
theorem bclone_ok {l:List Item} {Q:List Item→Prop} (hl:l.length≤1000000) (hQ:Q l):slices_Clone_api_Item_api_Item l Q:=by
  unfold slices_Clone_api_Item_api_Item
  refine nilP_intro (fun e=>by subst e; exact hQ) (appP_intro (by simp; omega) ?_)
  exact hQ
theorem set_loop {α:Type} {xs:List α} {g:α→α} {body:List α×Int→(List α×Int→Prop)→Prop} (hl:xs.length≤1000000000)
    (hs:∀ (i:Nat) (s:List α) (next:List α×Int→Prop) (hi:i<xs.length) (hsl:s.length=xs.length),s[i]'(by omega)=xs[i]→next (s.set i (g xs[i]),w64 ((i:Int)+1))→body (s,(i:Int)) next)
    (he:∀ (next:List α×Int→Prop) s,s=xs.map g→body (s,(xs.length:Int)) next):loopP body (xs,0):=by
  refine range_intro (fun (s:List α) i=>(s,i)) 0 xs.length (by omega) (fun k s=>s=(xs.take k).map g++xs.drop k) (by omega) (by simp) (fun k s next _ hk hs' hn=>?_) (fun s next hs'=>?_)
  · have hsl:s.length=xs.length:=by subst hs'; simp; omega
    have hlt:((xs.take k).map g).length=k:=by simp; omega
    refine hs k s next hk hsl ?_ (hn _ ?_)
    · have h2:s[k]? = xs[k]?:=by subst hs'; rw [List.getElem?_append_right (by omega),hlt,Nat.sub_self,List.getElem?_drop,Nat.add_zero]
      exact Option.some.inj ((List.getElem?_eq_getElem (by omega)).symm.trans (h2.trans (List.getElem?_eq_getElem hk)))
    · subst hs'
      rw [List.set_append_right _ _ (by omega),hlt,Nat.sub_self,List.drop_eq_getElem_cons hk,List.set_cons_zero,List.take_succ_eq_append_getElem hk,List.map_append,List.append_assoc]
      rfl
  · rw [List.take_length,List.drop_length,List.append_nil] at hs'
    exact he next s hs'
theorem each_part_ok {f:Int} {v:Vec} {Q:Vec→Prop} (hv:VecP v) (hf:0≤f) (hi:∀ x∈v.Items,f≤x.At) (hQ:Q ⟨v.N,v.Items.map fun x=>⟨x.At - f,x.Val⟩⟩):spvec_each_bf7 f v Q:=by
  unfold spvec_each_bf7 spvec_Part_1_d5a
  have hl:=hv.len; have:=hv.n1
  refine spvec_sure_ok (by omega) ?_
  rw [sureV_id hv]
  refine bclone_ok (by omega) (set_loop (g:=fun x:Item=>(⟨x.At - f,x.Val⟩:Item)) (by omega) (fun i s next hi' hsl hget hn=>?_) (fun next s hs=>?_))
  · have hx:=hv.ins _ (List.getElem_mem hi'); have hx2:=hi _ (List.getElem_mem hi')
    refine ifP_dec (fun _=>idxP_nat (by omega) ?_) (fun h=>by omega)
    rw [hget,w64_id (x:=(v.Items[i]).At - f) (by omega) (by omega)]
    exact idxP_nat (by omega) hn
  · subst hs
    exact ifP_dec (fun h=>by omega) (fun _=>hQ)
theorem seg_filter {l:List Item} (h:IncI l) {f t:Int} {m n:Nat} (hmn:m≤n) (hn:n≤l.length) (h1:∀ (k:Nat) (hk:k<l.length),k<m→(l[k]).At<f) (h2:∀ (k:Nat) (hk:k<l.length),m≤k→¬(l[k]).At<f)
    (h3:∀ (k:Nat) (hk:k<l.length),k<n→(l[k]).At<t) (h4:∀ (k:Nat) (hk:k<l.length),n≤k→¬(l[k]).At<t):(l.take n).drop m=l.filter fun x=>decide (f≤x.At∧x.At<t):=by
  have e:l=l.take m++((l.take n).drop m++l.drop n):=by
    conv=>lhs; rw [←List.take_append_drop n l]
    rw [←List.append_assoc]
    congr 1
    conv=>lhs; rw [←List.take_append_drop m (l.take n)]
    rw [List.take_take,Nat.min_eq_left hmn]
  conv=>rhs; rw [e]
  rw [List.filter_append,List.filter_append,List.filter_eq_nil_iff.2,List.filter_eq_self.2,List.filter_eq_nil_iff.2]
  · simp
  · intro x hx
    obtain ⟨k,hk,rfl⟩:=List.getElem_of_mem hx
    rw [List.length_drop] at hk
    rw [List.getElem_drop]
    have:=h4 (n+k) (by omega) (by omega)
    simp only [decide_eq_true_eq]; omega
  · intro x hx
    obtain ⟨k,hk,rfl⟩:=List.getElem_of_mem hx
    rw [List.length_drop,List.length_take] at hk
    rw [List.getElem_drop,List.getElem_take]
    have a:=h2 (m+k) (by omega) (by omega); have b:=h3 (m+k) (by omega) (by omega)
    simp only [decide_eq_true_eq]; omega
  · intro x hx
    obtain ⟨k,hk,rfl⟩:=List.getElem_of_mem hx
    rw [List.length_take] at hk
    rw [List.getElem_take]
    have:=h1 k (by omega) (by omega)
    simp only [decide_eq_true_eq]; omega
theorem spvec_Part_ok {v:Vec} {a b:Int} {Q:Vec→Prop} (hl:v.Items.length≤1000000000) (hQ:Q (partV (sureV v) a b)):spvec_Part v a b Q:=by
  unfold spvec_Part
  have hu:=sureV_ok v
  refine spvec_sure_ok hl ?_
  generalize sureV v=u at hu hQ
  have hul:=hu.len; have:=hu.n0; have:=hu.n1
  unfold partV at hQ
  generalize hf:(if 0 > a then 0 else a)=f at *
  generalize ht:(if u.N<b then u.N else b)=t at *
  have hf0:0≤f:=by subst hf; split <;> omega
  have htN:t≤u.N:=by subst ht; split <;> omega
  refine ifP_dec (fun h=>?_) (fun h=>?_)
  · rw [if_pos h] at hQ; exact hQ
  · rw [if_neg h] at hQ
    refine spvec_find_ok hu fun m _ hm m1 m2=>spvec_find_ok hu fun n _ hn n1 n2=>?_
    have hmn:m≤n:=by
      rcases Nat.lt_or_ge n m with hlt | hge
      · have x1:=m1 n (by omega) hlt
        have x2:=n2 n (by omega) (Nat.le_refl _)
        omega
      · exact hge
    have hseg:=seg_filter hu.inc hmn hn m1 m2 n1 n2
    refine slP_nat hmn hn ?_
    rw [Int.toNat_natCast,Int.toNat_natCast,hseg]
    have hmem:∀ x∈u.Items.filter fun x=>decide (f≤x.At∧x.At<t),x∈u.Items∧f≤x.At∧x.At<t:=fun x hx=>by
      have:=List.mem_filter.1 hx
      exact ⟨this.1,of_decide_eq_true this.2⟩
    refine each_part_ok (v:=⟨u.N,u.Items.filter fun x=>decide (f≤x.At∧x.At<t)⟩) ⟨hu.n0,hu.n1,List.Pairwise.filter _ hu.inc,fun x hx=>hu.ins x (hmem x hx).1⟩ hf0 (fun x hx=>(hmem x hx).2.1) ?_
    rw [w64_id (by omega) (by omega)]
    exact hQ
def pieceS (v:Vec) (k i:Int):Vec:=if sideP k∧0≤i∧i<k then partV v (lowS v.N k i) (lowS v.N k (i+1)) else zV
theorem block_Piece_ok {v:Vec} {k i:Int} {Q:Vec→Prop} (hv:VecP v) (hQ:Q (pieceS v k i)):block_Piece v k i Q:=by
  unfold block_Piece
  unfold pieceS at hQ
  have hl:=hv.len
  refine spvec_Right_ok (by omega) ?_
  rw [decide_eq_true hv]
  refine ifP_neg rfl (block_grid_ok (ifP_not (fun hg=>?_) (fun hg=>?_)))
  · rw [if_neg (fun h=>of_decide_eq_false hg ⟨⟨h.1,by unfold sideP; omega⟩,h.2,by omega⟩)] at hQ
    exact hQ
  · have hg:=of_decide_eq_true hg
    rw [if_pos ⟨hg.1.1,hg.2.1⟩] at hQ
    refine block_bounds_ok hg.2.1.1 hg.2.1.2 (spvec_Part_ok (by omega) ?_)
    rw [sureV_id hv]; exact hQ
def mx (a b:Int):Int:=if b > a then b else a
def mn (a b:Int):Int:=if b<a then b else a
def comA (n r c i j:Int):Int:=mx (lowS n r i) (lowS n c j)
def comB (n r c i j:Int):Int:=mx (comA n r c i j) (mn (lowS n r (i+1)) (lowS n c (j+1)))
def sliceS (v:Vec) (n r c i j:Int):Vec:=
  if (0≤n∧n≤4096)∧gridP r c i j∧VecP v∧v.N=sizS n r i then partV v (comA n r c i j - lowS n r i) (comB n r c i j - lowS n r i) else zV
theorem com_le (n r c i j:Int):0≤comA n r c i j∧comA n r c i j≤comB n r c i j∧comB n r c i j≤4096:=by
  have h1:=low_le n r i; have h2:=low_le n c j; have h3:=low_le n r (i+1); have h4:=low_le n c (j+1)
  unfold comB comA mx mn
  repeat' split
  all_goals omega
theorem block_Slice_ok {v:Vec} {n r c i j:Int} {Q:Vec→Prop} (hl:v.Items.length≤1000000000) (hQ:Q (sliceS v n r c i j)):block_Slice v n r c i j Q:=by
  unfold block_Slice
  unfold sliceS at hQ
  have hno:¬((0≤n∧n≤4096)∧gridP r c i j∧VecP v∧v.N=sizS n r i)→Q zV:=fun hg=>by rwa [if_neg hg] at hQ
  refine block_within_ok (ifP_not (fun h=>hno fun hg=>of_decide_eq_false h hg.1) (fun h1=>block_grid_ok (ifP_not (fun h=>hno fun hg=>of_decide_eq_false h hg.2.1) (fun h2=>spvec_Right_ok hl (ifP_not (fun h=>hno fun hg=>of_decide_eq_false h hg.2.2.1) (fun h3=>part_Size_ok (ifP_ne (fun h=>hno fun hg=>h hg.2.2.2) (fun h4=>?_))))))))
  have h1:=of_decide_eq_true h1; have h2:=of_decide_eq_true h2; have h3:=of_decide_eq_true h3
  rw [if_pos ⟨h1,h2,h3,h4⟩] at hQ
  refine block_bounds_ok h2.2.1.1 h2.2.1.2 (block_bounds_ok h2.2.2.1 h2.2.2.2 ?_)
  unfold block_common
  refine spvec_Part_ok hl ?_
  have hc:=com_le n r c i j; have hb:=low_le n r i
  have ea:(if (lowS n c j) > (lowS n r i) then lowS n c j else lowS n r i)=comA n r c i j:=rfl
  have eb:(if (if (lowS n c (j+1))<(lowS n r (i+1)) then lowS n c (j+1) else lowS n r (i+1)) > comA n r c i j then (if (lowS n c (j+1))<(lowS n r (i+1)) then lowS n c (j+1) else lowS n r (i+1)) else comA n r c i j)=comB n r c i j:=rfl
  simp only
  rw [ea,eb,w64_id (by omega) (by omega),w64_id (by omega) (by omega),sureV_id h3]
  exact hQ
def shI (n:Int) (x:Item):Item:=⟨n+x.At,x.Val⟩
def glueS:List Vec→Vec→Vec×Int
  | [],o=>(o,0)
  | v :: l,o=>if 4096<o.N+(sureV v).N then (zV,5) else glueS l ⟨o.N+(sureV v).N,o.Items++(sureV v).Items.map (shI o.N)⟩
theorem each_glue_ok {f:Int} {v:Vec} {Q:Vec→Prop} (hl:v.Items.length≤1000000000) (hf:0≤f∧f≤4096) (hQ:Q ⟨(sureV v).N,(sureV v).Items.map (shI f)⟩):spvec_each_2bc f v Q:=by
  unfold spvec_each_2bc spvec_Glue_1_53d
  have hv:=sureV_ok v
  refine spvec_sure_ok hl ?_
  generalize sureV v=u at hv hQ
  have hl:=hv.len; have:=hv.n1
  refine bclone_ok (by omega) (set_loop (g:=shI f) (by omega) (fun i s next hi' hsl hget hn=>?_) (fun next s hs=>?_))
  · have hx:=hv.ins _ (List.getElem_mem hi')
    refine ifP_dec (fun _=>idxP_nat (by omega) ?_) (fun h=>by omega)
    rw [hget,w64_id (x:=f+(u.Items[i]).At) (by omega) (by omega)]
    exact idxP_nat (by omega) hn
  · subst hs
    exact ifP_dec (fun h=>by omega) (fun _=>hQ)
theorem spvec_Glue_ok {l:List Vec} {Q:Vec×Int→Prop} (hl:l.length≤1000) (hs:∀ v∈l,v.Items.length≤1000000000) (hQ:Q (glueS l zV)):spvec_Glue l Q:=by
  unfold spvec_Glue
  refine range_intro (s0:=zV) (fun (s:Vec) i=>(s.N,s.Items,i)) 0 l.length (by omega) (fun i s=>glueS (l.drop i) s=glueS l zV∧(0≤s.N∧s.N≤4096)∧s.Items.length≤i*4096) (by omega) ⟨rfl,by decide,by decide⟩ (fun i s next _ hi hm hn=>?_) (fun s next hm=>?_)
  · obtain ⟨m1,m2,m3⟩:=hm
    rw [List.drop_eq_getElem_cons hi,glueS] at m1
    have hv:=sureV_ok l[i]
    refine ifP_dec (fun _=>idxP_nat hi (each_glue_ok (hs _ (List.getElem_mem hi)) m2 ?_)) (fun h=>by omega)
    generalize sureV l[i]=u at hv m1
    have:=hv.n0; have:=hv.n1; have:=hv.len
    rw [w64_id (x:=4096 - s.N) (by omega) (by omega)]
    refine ifP_dec (fun h=>?_) (fun h=>appP_intro (by rw [List.length_map]; omega) ?_)
    · rw [if_pos (by simp only at h; omega)] at m1
      rw [←m1] at hQ; exact hQ
    · rw [if_neg (by simp only at h; omega)] at m1
      refine hn ⟨w64 (s.N+u.N),s.Items++u.Items.map (shI s.N)⟩ ⟨?_,?_,?_⟩
      · rw [w64_id (by omega) (by omega)]; exact m1
      · simp only at h; rw [w64_id (by omega) (by omega)]; simp only; omega
      · simp only [List.length_append,List.length_map]; omega
  · obtain ⟨m1,_,_⟩:=hm
    refine ifP_dec (fun h=>by omega) (fun _=>?_)
    rw [List.drop_length,glueS] at m1
    rw [←m1] at hQ; exact hQ
noncomputable def gluedS (size:Nat→Int) (l:List Vec):Vec×Int:=if ∀ (i:Nat) (h:i<l.length),VecP l[i]∧l[i].N=size i then glueS l zV else (zV,4)
noncomputable def glueB (n k:Int) (l:List Vec):Vec×Int:=if ¬((0≤n∧n≤4096)∧sideP k) then (zV,3) else if (l.length:Int)≠k then (zV,4) else gluedS (fun i=>sizS n k i) l
open Classical in
noncomputable def fitB (n r c j:Int) (l:List Vec):Vec×Int:=if ¬((0≤n∧n≤4096)∧gridP r c 0 j) then (zV,3) else if (l.length:Int)≠r then (zV,4) else gluedS (fun i=>comB n r c i j - comA n r c i j) l
theorem block_Glue_ok {n k:Int} {l:List Vec} {Q:Vec×Int→Prop} (hl:l.length≤1000) (hs:∀ v∈l,v.Items.length≤1000000000) (hQ:Q (glueB n k l)):block_Glue n k l Q:=by
  unfold block_Glue block_glued_57b block_Glue_1_d22
  unfold glueB at hQ
  refine block_within_ok (ifP_not (fun h=>?_) (fun h1=>block_side_ok (ifP_not (fun h=>?_) (fun h2=>ifP_ne (fun h=>?_) (fun h3=>?_)))))
  · rwa [if_pos (fun h'=>of_decide_eq_false h h'.1)] at hQ
  · rwa [if_pos (fun h'=>of_decide_eq_false h h'.2)] at hQ
  · rwa [if_neg (fun h'=>h' ⟨of_decide_eq_true h1,of_decide_eq_true h2⟩),if_pos h] at hQ
  rw [if_neg (fun h'=>h' ⟨of_decide_eq_true h1,of_decide_eq_true h2⟩),if_neg (fun h=>h h3)] at hQ
  unfold gluedS at hQ
  refine scan_intro l.length (by omega) (fun i=>∀ (q:Nat) (hq:q<l.length),q<i→VecP l[q]∧l[q].N=sizS n k q) (fun q hq h=>by omega) (fun i next hi hm hn=>?_) (fun next hm=>?_)
  · refine ifP_dec (fun _=>idxP_nat hi (spvec_Right_ok (hs _ (List.getElem_mem hi)) (ifP_not (fun h=>?_) (fun h=>part_Size_ok (ifP_ne (fun h'=>?_) (fun h'=>hn fun q hq hqi=>?_)))))) (fun h=>by omega)
    · rw [if_neg (fun ha=>of_decide_eq_false h (ha i hi).1)] at hQ; exact hQ
    · rw [if_neg (fun ha=>h' (ha i hi).2)] at hQ; exact hQ
    · by_cases e:q=i
      · subst e; exact ⟨of_decide_eq_true h,h'⟩
      · exact hm q hq (by omega)
  · rw [if_pos (fun i hi=>hm i hi hi)] at hQ
    exact ifP_dec (fun h=>by omega) (fun _=>spvec_Glue_ok hl hs hQ)
theorem fit_size {n r c i j:Int} {Q:Int→Prop} (h1:0≤i∧i<r) (h2:0≤j∧j<c) (hQ:Q (comB n r c i j - comA n r c i j)):block_Fit_1_802 n r c j i Q:=by
  unfold block_Fit_1_802 block_common
  refine block_bounds_ok h1.1 h1.2 (block_bounds_ok h2.1 h2.2 ?_)
  have hc:=com_le n r c i j
  have ea:(if (lowS n c j) > (lowS n r i) then lowS n c j else lowS n r i)=comA n r c i j:=rfl
  have eb:(if (if (lowS n c (j+1))<(lowS n r (i+1)) then lowS n c (j+1) else lowS n r (i+1)) > comA n r c i j then (if (lowS n c (j+1))<(lowS n r (i+1)) then lowS n c (j+1) else lowS n r (i+1)) else comA n r c i j)=comB n r c i j:=rfl
  simp only
  rw [ea,eb,w64_id (by omega) (by omega)]
  exact hQ
theorem block_Fit_ok {n r c j:Int} {l:List Vec} {Q:Vec×Int→Prop} (hl:l.length≤1000) (hs:∀ v∈l,v.Items.length≤1000000000) (hQ:Q (fitB n r c j l)):block_Fit n r c j l Q:=by
  unfold block_Fit block_glued_ecf
  unfold fitB at hQ
  refine block_within_ok (ifP_not (fun h=>?_) (fun h1=>block_grid_ok (ifP_not (fun h=>?_) (fun h2=>ifP_ne (fun h=>?_) (fun h3=>?_)))))
  · rwa [if_pos (fun h'=>of_decide_eq_false h h'.1)] at hQ
  · rwa [if_pos (fun h'=>of_decide_eq_false h h'.2)] at hQ
  · rwa [if_neg (fun h'=>h' ⟨of_decide_eq_true h1,of_decide_eq_true h2⟩),if_pos h] at hQ
  have hg:=of_decide_eq_true h2
  rw [if_neg (fun h'=>h' ⟨of_decide_eq_true h1,hg⟩),if_neg (fun h=>h h3)] at hQ
  unfold gluedS at hQ
  refine scan_intro l.length (by omega) (fun i=>∀ (q:Nat) (hq:q<l.length),q<i→VecP l[q]∧l[q].N=comB n r c q j - comA n r c q j) (fun q hq h=>by omega) (fun i next hi hm hn=>?_) (fun next hm=>?_)
  · refine ifP_dec (fun _=>idxP_nat hi (spvec_Right_ok (hs _ (List.getElem_mem hi)) (ifP_not (fun h=>?_) (fun h=>fit_size (by omega) hg.2.2 (ifP_ne (fun h'=>?_) (fun h'=>hn fun q hq hqi=>?_)))))) (fun h=>by omega)
    · rw [if_neg (fun ha=>of_decide_eq_false h (ha i hi).1)] at hQ; exact hQ
    · rw [if_neg (fun ha=>h' (ha i hi).2)] at hQ; exact hQ
    · by_cases e:q=i
      · subst e; exact ⟨of_decide_eq_true h,h'⟩
      · exact hm q hq (by omega)
  · rw [if_pos (fun i hi=>hm i hi hi)] at hQ
    exact ifP_dec (fun h=>by omega) (fun _=>spvec_Glue_ok hl hs hQ)
end Go.Proofs.YtpackolbhcmomaaGreat
