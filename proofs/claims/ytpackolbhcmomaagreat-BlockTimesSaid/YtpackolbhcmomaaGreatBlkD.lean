import Derived.Test.YtpackolbhcmomaaGreatBlkA
namespace Go.Proofs.YtpackolbhcmomaaGreat
open Go Go.Fw
set_option linter.unusedVariables false
set_option linter.unusedSimpArgs false
theorem toQ {P:Prop} [Decidable P] {b:Bool} {Q:Bool→Prop} (hQ:Q (decide P)) (h:b=true↔P):Q b:=by
  have:decide P=b:=by rw [Bool.eq_iff_iff,decide_eq_true_iff]; exact h.symm
  rwa [this] at hQ
theorem part_may_ok {n k:Int} {Q:Bool→Prop} (hQ:Q (decide (mayP n k))):part_may n k Q:=by
  unfold part_may part_side
  refine ifP_dec (fun a=>ifP_dec (fun b=>ifP_dec (fun c=>toQ hQ ?_) (fun c=>toQ hQ ?_)) (fun b=>toQ hQ ?_)) (fun a=>toQ hQ ?_) <;> (unfold mayP; simp; omega)
theorem ref17_may_ok {n k:Int} {Q:Bool→Prop} (hQ:Q (decide (mayP n k))):ref17_may n k Q:=by
  unfold ref17_may
  refine ifP_dec (fun a=>ifP_dec (fun b=>ifP_dec (fun c=>toQ hQ ?_) (fun c=>toQ hQ ?_)) (fun b=>toQ hQ ?_)) (fun a=>toQ hQ ?_) <;> (unfold mayP; simp; omega)
theorem part_Low_ok {n k i:Int} {Q:Int→Prop} (hQ:Q (lowS n k i)):part_Low n k i Q:=by
  unfold part_Low
  unfold lowS at hQ
  refine part_may_ok (ifP_not (fun h=>?_) (fun h=>?_))
  · rwa [if_neg (of_decide_eq_false h)] at hQ
  · have hm:=of_decide_eq_true h
    rw [if_pos hm] at hQ
    have e:(if k<(if 0 > i then 0 else i) then k else (if 0 > i then 0 else i))=clI i k:=by
      unfold clI; have:=hm.2; split <;> split <;> (try split) <;> (try split) <;> omega
    rw [e]
    have hb:=mul_b hm.2 hm.1 (clI_b (i:=i) hm.2.1)
    have hk:=hm.2
    refine ⟨by omega,?_⟩
    rw [w64_id (x:=clI i k*n) (by omega) (by omega),Int.tdiv_eq_ediv_of_nonneg hb.1]
    have h1:0≤clI i k*n / k:=Int.ediv_nonneg hb.1 (by omega)
    have h2:clI i k*n / k≤clI i k*n:=Int.ediv_le_self _ hb.1
    rwa [w64_id (by omega) (by omega)]
theorem ref17_Low_ok {n k i:Int} {Q:Int→Prop} (hQ:Q (lowS n k i)):ref17_Low n k i Q:=by
  unfold ref17_Low
  refine ref17_may_ok (ifP_not (fun h=>?_) (fun h=>?_))
  · unfold lowS at hQ; rwa [if_neg (of_decide_eq_false h)] at hQ
  · have hm:=of_decide_eq_true h
    have hk:=hm.2
    refine ifP_dec (fun hi=>?_) (fun hi=>ifP_dec (fun hi2=>?_) (fun hi2=>⟨by omega,?_⟩))
    · rwa [low_neg (by omega)] at hQ
    · have e:lowS n k i=n:=by
        unfold lowS clI
        rw [if_pos hm,if_neg hi]
        split
        · rw [Int.mul_comm,Int.mul_ediv_cancel _ (by omega)]
        · rw [show i=k by omega,Int.mul_comm,Int.mul_ediv_cancel _ (by omega)]
      rwa [e] at hQ
    · unfold lowS clI at hQ
      rw [if_pos hm,if_neg hi,if_neg (by omega)] at hQ
      have hb:=mul_b hk hm.1 (i:=i) ⟨by omega,by omega⟩
      rw [w64_id (x:=i*n) (by omega) (by omega),Int.tdiv_eq_ediv_of_nonneg hb.1]
      have h1:0≤i*n / k:=Int.ediv_nonneg hb.1 (by omega)
      have h2:i*n / k≤i*n:=Int.ediv_le_self _ hb.1
      rwa [w64_id (by omega) (by omega)]
theorem low_le (n k i:Int):0≤lowS n k i∧lowS n k i≤4096:=by
  by_cases hm:mayP n k
  · have h:=low_b (n:=n) (k:=k) (i:=i)
    have:=h.2 hm.1.1
    have:=hm.1.2
    exact ⟨h.1,by omega⟩
  · unfold lowS; rw [if_neg hm]; omega
def sizS (n k i:Int):Int:=if 0≤i∧i<k then lowS n k (i+1) - lowS n k i else 0
theorem low_w {n k i:Int} (h0:0≤i) (h:i<k):lowS n k (w64 (i+1))=lowS n k (i+1):=by
  by_cases hm:mayP n k
  · have:=hm.2
    rw [w64_id (by omega) (by omega)]
  · unfold lowS; rw [if_neg hm,if_neg hm]
theorem part_Size_ok {n k i:Int} {Q:Int→Prop} (hQ:Q (sizS n k i)):part_Size n k i Q:=by
  unfold part_Size
  unfold sizS at hQ
  refine ifP_dec (fun h=>?_) (fun h=>ifP_dec (fun h'=>?_) (fun h'=>part_Low_ok (part_Low_ok ?_)))
  · rwa [if_neg (by omega)] at hQ
  · rwa [if_neg (by omega)] at hQ
  · rw [if_pos (by omega)] at hQ
    have h1:=low_le n k (i+1); have h2:=low_le n k i
    rw [low_w (by omega) (by omega),w64_id (by omega) (by omega)]; exact hQ
def sideP (k:Int):Prop:=1≤k∧k≤8
instance (k:Int):Decidable (sideP k):=by unfold sideP; infer_instance
def gridP (r c i j:Int):Prop:=(sideP r∧sideP c)∧(0≤i∧i<r)∧0≤j∧j<c
instance (r c i j:Int):Decidable (gridP r c i j):=by unfold gridP; infer_instance
theorem block_side_ok {k:Int} {Q:Bool→Prop} (hQ:Q (decide (sideP k))):block_side k Q:=by
  unfold block_side
  refine ifP_dec (fun a=>toQ hQ ?_) (fun a=>toQ hQ ?_) <;> (unfold sideP; simp; omega)
theorem block_grid_ok {r c i j:Int} {Q:Bool→Prop} (hQ:Q (decide (gridP r c i j))):block_grid r c i j Q:=by
  unfold block_grid
  refine block_side_ok (ifP_dec (fun a=>block_side_ok (ifP_dec (fun b=>ifP_dec (fun d=>ifP_dec (fun e=>ifP_dec (fun f=>toQ hQ ?_) (fun f=>toQ hQ ?_)) (fun e=>toQ hQ ?_)) (fun d=>toQ hQ ?_)) (fun b=>toQ hQ ?_))) (fun a=>toQ hQ ?_)) <;> (unfold gridP; unfold sideP at *; simp only [Bool.false_eq_true,decide_eq_true_eq,false_iff]; omega)
theorem ref18_sides_ok {r c:Int} {Q:Bool→Prop} (hQ:Q (decide (sideP r∧sideP c))):ref18_sides r c Q:=by
  unfold ref18_sides
  refine ifP_dec (fun a=>ifP_dec (fun b=>ifP_dec (fun d=>toQ hQ ?_) (fun d=>toQ hQ ?_)) (fun b=>toQ hQ ?_)) (fun a=>toQ hQ ?_) <;> (unfold sideP; simp; omega)
theorem block_within_ok {n:Int} {Q:Bool→Prop} (hQ:Q (decide (0≤n∧n≤4096))):block_within n Q:=by
  unfold block_within
  refine ifP_dec (fun a=>toQ hQ ?_) (fun a=>toQ hQ ?_) <;> (simp; omega)
theorem block_bounds_ok {n k i:Int} {Q:Int×Int→Prop} (h0:0≤i) (h:i<k) (hQ:Q (lowS n k i,lowS n k (i+1))):block_bounds n k i Q:=by
  unfold block_bounds
  refine part_Low_ok (part_Low_ok ?_)
  rw [low_w h0 h]; exact hQ
def cutG (rows cols:Int) (T:List Triple) (r c i j:Int):Rows:=if gridP r c i j then cutS rows cols T (lowS rows r i,lowS rows r (i+1)) (lowS cols c j,lowS cols c (j+1)) else builtS 0 0 []
theorem sure_zR:sureS zR=builtS 0 0 []:=if_neg zR_wrong
theorem cut_none:cutS 0 0 [] (0,0) (0,0)=builtS 0 0 []:=by decide
theorem csr_cut_none {Q:Rows→Prop} (hQ:Q (builtS 0 0 [])):csr_Cut zR (0,0) (0,0) Q:=by
  refine csr_cut_ok small_zR sure_zR canon_empty ?_
  rw [cut_none]; exact hQ
theorem ref_empty {Q:Rows→Prop} (hQ:Q (builtS 0 0 [])):ref07_Empty 0 0 Q:=by
  unfold ref07_Empty
  exact ⟨by decide,by decide,hQ⟩
theorem block_Cut_ok {rows cols r c i j:Int} {T:List Triple} {Q:Rows→Prop} (h:Canon rows cols T) (hQ:Q (cutG rows cols T r c i j)):block_Cut (builtS rows cols T) r c i j Q:=by
  unfold block_Cut
  unfold cutG at hQ
  refine right_ok h.sml ?_
  rw [decide_eq_true h.right]
  refine ifP_neg rfl (block_grid_ok (ifP_not (fun hg=>?_) (fun hg=>?_)))
  · rw [if_neg (of_decide_eq_false hg)] at hQ
    exact csr_cut_none hQ
  · have hg:=of_decide_eq_true hg
    rw [if_pos hg] at hQ
    exact block_bounds_ok hg.2.1.1 hg.2.1.2 (block_bounds_ok hg.2.2.1 hg.2.2.2 (csr_cut_ok h.sml (sure_built h) h hQ))
theorem ref18_Cut_ok {rows cols r c i j:Int} {T:List Triple} {Q:Rows→Prop} (h:Canon rows cols T) (hQ:Q (cutG rows cols T r c i j)):ref18_Cut (builtS rows cols T) r c i j Q:=by
  unfold ref18_Cut
  unfold cutG at hQ
  refine ref_right_ok h.sml ?_
  rw [decide_eq_true h.right]
  have hno:¬gridP r c i j→Q (builtS 0 0 []):=fun hg=>by rwa [if_neg hg] at hQ
  refine ifP_neg rfl (ref18_sides_ok (ifP_not (fun hs=>ref_empty (hno fun hg=>of_decide_eq_false hs hg.1)) (fun hs=>?_)))
  have hs:=of_decide_eq_true hs
  refine ifP_dec (fun a=>ref_empty (hno fun hg=>by have:=hg.2; omega)) (fun a=>ifP_dec (fun b=>ref_empty (hno fun hg=>by have:=hg.2; omega)) (fun b=>ifP_dec (fun d=>ref_empty (hno fun hg=>by have:=hg.2; omega)) (fun d=>ifP_dec (fun e=>ref_empty (hno fun hg=>by have:=hg.2; omega)) (fun e=>?_))))
  rw [if_pos ⟨hs,by omega,by omega⟩] at hQ
  refine ref17_Low_ok (ref17_Low_ok (ref17_Low_ok (ref17_Low_ok ?_)))
  rw [low_w (by omega) (by omega),low_w (by omega) (by omega)]
  exact ref_cut_ok h.sml (sure_built h) h hQ
theorem cutG_canon {rows cols r c i j:Int} {T:List Triple} (h:Canon rows cols T) (hg:gridP r c i j):cutG rows cols T r c i j=builtS (sizS rows r i) (sizS cols c j) (cutT (lowS rows r i) (lowS rows r (i+1)) (lowS cols c j) (lowS cols c (j+1)) T)∧Canon (sizS rows r i) (sizS cols c j) (cutT (lowS rows r i) (lowS rows r (i+1)) (lowS cols c j) (lowS cols c (j+1)) T):=by
  have hc:=cut_canon h (lowS rows r i,lowS rows r (i+1)) (lowS cols c j,lowS cols c (j+1))
  have e:∀ {n k x:Int},0≤n→0≤x∧x<k→cLo (lowS n k x)=lowS n k x∧cHi (lowS n k (x+1)) n=lowS n k (x+1)∧ext (lowS n k x) (lowS n k (x+1)) n=sizS n k x:=by
    intro n k x hn hx
    have h1:=low_b (n:=n) (k:=k) (i:=x); have h2:=low_b (n:=n) (k:=k) (i:=x+1)
    have h3:=low_mono (n:=n) (k:=k) (show x≤x+1 by omega)
    have h4:=h2.2 hn
    have e1:cLo (lowS n k x)=lowS n k x:=by unfold cLo; split <;> omega
    have e2:cHi (lowS n k (x+1)) n=lowS n k (x+1):=by unfold cHi; split <;> omega
    refine ⟨e1,e2,?_⟩
    unfold ext sizS
    rw [e1,e2,if_pos hx]
    split <;> omega
  obtain ⟨a1,a2,a3⟩:=e h.r0 hg.2.1
  obtain ⟨b1,b2,b3⟩:=e h.c0 hg.2.2
  simp only [a1,a2,a3,b1,b2,b3] at hc
  refine ⟨?_,hc⟩
  unfold cutG
  rw [if_pos hg]
  unfold cutS
  simp only [a1,a2,a3,b1,b2,b3]
theorem bmid_eq {a b:Int} (h0:0≤a) (h1:0≤b) (h2:a≤1000000) (h3:b≤1000000):w64 (shr .u64 (IntKind.wrap .u64 (w64 (a+b))) 1)=(a+b) / 2:=by
  have e:∀ i:Int,shr .u64 i 1=i / 2:=fun i=>shr_u 1 (by omega)
  rw [w64_id (x:=a+b) (by omega) (by omega),wrap_u64_id (by omega) (by omega),e,w64_id (by omega) (by omega)]
theorem bcmpc_neg (x y:Int):cmpc x y<0↔x<y:=by unfold cmpc; split <;> (try split) <;> omega
theorem spvec_find_ok {w:Vec} {i:Int} {Q:Int×Bool→Prop} (hP:VecP w) (hQ:∀ (m:Nat) b,m≤w.Items.length→(∀ (k:Nat) (hk:k<w.Items.length),k<m→(w.Items[k]).At<i)→(∀ (k:Nat) (hk:k<w.Items.length),m≤k→¬(w.Items[k]).At<i)→Q (m,b)):spvec_find w i Q:=by
  have hi:=hP.inc
  have hlen:=hP.len
  unfold spvec_find slices_BinarySearchFunc_api_Item_api_Item_int_8a3 spvec_order_7ac
  refine loop_intro (fun s:Int×Int=>0≤s.1∧s.1≤s.2∧s.2≤w.Items.length∧(∀ (k:Nat) (hk:k<w.Items.length),(k:Int)<s.1→(w.Items[k]).At<i)∧(∀ (k:Nat) (hk:k<w.Items.length),s.2≤(k:Int)→¬(w.Items[k]).At<i)) (fun s=>(s.2 - s.1).toNat) ⟨by simp,by simp,by simp,fun k hk h=>by simp at h; omega,fun k hk h=>by simp at h; omega⟩ ?_
  rintro ⟨a,b⟩ next ⟨h0,h1,h2,h3,h4⟩ hn
  simp only at h0 h1 h2 h3 h4
  refine ifP_dec (fun hab=>?_) (fun hab=>?_)
  · rw [bmid_eq h0 (by omega) (by omega) (by omega)]
    obtain ⟨m,hm⟩:∃ m:Nat,(a+b) / 2=(m:Int):=⟨((a+b) / 2).toNat,by omega⟩
    rw [hm]
    have hml:m<w.Items.length:=by omega
    refine idxP_nat hml (cmp_int_ok (ifP_dec (fun hc=>?_) (fun hc=>?_)))
    · rw [bcmpc_neg] at hc
      rw [w64_id (by omega) (by omega)]
      refine hn _ ⟨by simp only; omega,by simp only; omega,h2,fun k hk hkm=>?_,h4⟩ (by simp only; omega)
      simp only at hkm
      by_cases e:k=m
      · subst e; exact hc
      · have:=hi.at hml (by omega:k<m); omega
    · rw [bcmpc_neg] at hc
      refine hn _ ⟨h0,by simp only; omega,by simp only; omega,h3,fun k hk hkm=>?_⟩ (by simp only; omega)
      simp only at hkm
      by_cases e:k=m
      · subst e; exact hc
      · have:=hi.at hk (by omega:m<k); omega
  · have hab':a=b:=by omega
    subst hab'
    obtain ⟨m,rfl⟩:∃ m:Nat,a=(m:Int):=⟨a.toNat,by omega⟩
    have hfin:∀ b,Q ((m:Int),b):=fun b=>hQ m b (by omega) (fun k hk h=>h3 k hk (by omega)) (fun k hk h=>h4 k hk (by omega))
    exact ifP_dec (fun hm=>idxP_nat (by omega) (cmp_int_ok (hfin _))) (fun hm=>hfin _)
theorem bclone_ok {l:List Item} {Q:List Item→Prop} (hl:l.length≤1000000) (hQ:Q l):slices_Clone_api_Item_api_Item l Q:=by
  unfold slices_Clone_api_Item_api_Item
  refine nilP_intro (fun e=>by subst e; exact hQ) (appP_intro (by simp; omega) ?_)
  exact hQ
theorem set_loop {α:Type} {xs:List α} {g:α→α} {body:List α×Int→(List α×Int→Prop)→Prop} (hl:xs.length≤1000000000)
    (hs:∀ (i:Nat) (s:List α) (next:List α×Int→Prop) (hi:i<xs.length) (hsl:s.length=xs.length),s[i]'(by omega)=xs[i]→next (s.set i (g xs[i]),w64 ((i:Int)+1))→body (s,(i:Int)) next)
    (he:∀ (next:List α×Int→Prop) s,s=xs.map g→body (s,(xs.length:Int)) next):loopP body (xs,0):=by
  refine range_intro (fun (s:List α) i=>(s,i)) 0 xs.length (by omega) (fun k s=>s=(xs.take k).map g++xs.drop k) (by omega) (by simp) (fun k s next _ hk hs' hn=>?_) (fun s next hs'=>?_)
  · have hsl:s.length=xs.length:=by subst hs'; simp; omega
    have hlt:((xs.take k).map g).length=k:=by simp; omega
    refine hs k s next hk hsl ?_ (hn _ ?_)
    · have h2:s[k]? = xs[k]?:=by subst hs'; rw [List.getElem?_append_right (by omega),hlt,Nat.sub_self,List.getElem?_drop,Nat.add_zero]
      exact Option.some.inj ((List.getElem?_eq_getElem (by omega)).symm.trans (h2.trans (List.getElem?_eq_getElem hk)))
    · subst hs'
      rw [List.set_append_right _ _ (by omega),hlt,Nat.sub_self,List.drop_eq_getElem_cons hk,List.set_cons_zero,List.take_succ_eq_append_getElem hk,List.map_append,List.append_assoc]
      rfl
  · rw [List.take_length,List.drop_length,List.append_nil] at hs'
    exact he next s hs'
theorem each_part_ok {f:Int} {v:Vec} {Q:Vec→Prop} (hv:VecP v) (hf:0≤f) (hi:∀ x∈v.Items,f≤x.At) (hQ:Q ⟨v.N,v.Items.map fun x=>⟨x.At - f,x.Val⟩⟩):spvec_each_bf7 f v Q:=by
  unfold spvec_each_bf7 spvec_Part_1_d5a
  have hl:=hv.len; have:=hv.n1
  refine spvec_sure_ok (by omega) ?_
  rw [sureV_id hv]
  refine bclone_ok (by omega) (set_loop (g:=fun x:Item=>(⟨x.At - f,x.Val⟩:Item)) (by omega) (fun i s next hi' hsl hget hn=>?_) (fun next s hs=>?_))
  · have hx:=hv.ins _ (List.getElem_mem hi'); have hx2:=hi _ (List.getElem_mem hi')
    refine ifP_dec (fun _=>idxP_nat (by omega) ?_) (fun h=>by omega)
    rw [hget,w64_id (x:=(v.Items[i]).At - f) (by omega) (by omega)]
    exact idxP_nat (by omega) hn
  · subst hs
    exact ifP_dec (fun h=>by omega) (fun _=>hQ)
theorem seg_filter {l:List Item} (h:IncI l) {f t:Int} {m n:Nat} (hmn:m≤n) (hn:n≤l.length) (h1:∀ (k:Nat) (hk:k<l.length),k<m→(l[k]).At<f) (h2:∀ (k:Nat) (hk:k<l.length),m≤k→¬(l[k]).At<f)
    (h3:∀ (k:Nat) (hk:k<l.length),k<n→(l[k]).At<t) (h4:∀ (k:Nat) (hk:k<l.length),n≤k→¬(l[k]).At<t):(l.take n).drop m=l.filter fun x=>decide (f≤x.At∧x.At<t):=by
  have e:l=l.take m++((l.take n).drop m++l.drop n):=by
    conv=>lhs; rw [←List.take_append_drop n l]
    rw [←List.append_assoc]
    congr 1
    conv=>lhs; rw [←List.take_append_drop m (l.take n)]
    rw [List.take_take,Nat.min_eq_left hmn]
  conv=>rhs; rw [e]
  rw [List.filter_append,List.filter_append,List.filter_eq_nil_iff.2,List.filter_eq_self.2,List.filter_eq_nil_iff.2]
  · simp
  · intro x hx
    obtain ⟨k,hk,rfl⟩:=List.getElem_of_mem hx
    rw [List.length_drop] at hk
    rw [List.getElem_drop]
    have:=h4 (n+k) (by omega) (by omega)
    simp only [decide_eq_true_eq]; omega
  · intro x hx
    obtain ⟨k,hk,rfl⟩:=List.getElem_of_mem hx
    rw [List.length_drop,List.length_take] at hk
    rw [List.getElem_drop,List.getElem_take]
    have a:=h2 (m+k) (by omega) (by omega); have b:=h3 (m+k) (by omega) (by omega)
    simp only [decide_eq_true_eq]; omega
  · intro x hx
    obtain ⟨k,hk,rfl⟩:=List.getElem_of_mem hx
    rw [List.length_take] at hk
    rw [List.getElem_take]
    have:=h1 k (by omega) (by omega)
    simp only [decide_eq_true_eq]; omega
theorem spvec_Part_ok {v:Vec} {a b:Int} {Q:Vec→Prop} (hl:v.Items.length≤1000000000) (hQ:Q (partV (sureV v) a b)):spvec_Part v a b Q:=by
  unfold spvec_Part
  have hu:=sureV_ok v
  refine spvec_sure_ok hl ?_
  generalize sureV v=u at hu hQ
  have hul:=hu.len; have:=hu.n0; have:=hu.n1
  unfold partV at hQ
  generalize hf:(if 0 > a then 0 else a)=f at *
  generalize ht:(if u.N<b then u.N else b)=t at *
  have hf0:0≤f:=by subst hf; split <;> omega
  have htN:t≤u.N:=by subst ht; split <;> omega
  refine ifP_dec (fun h=>?_) (fun h=>?_)
  · rw [if_pos h] at hQ; exact hQ
  · rw [if_neg h] at hQ
    refine spvec_find_ok hu fun m _ hm m1 m2=>spvec_find_ok hu fun n _ hn n1 n2=>?_
    have hmn:m≤n:=by
      rcases Nat.lt_or_ge n m with hlt | hge
      · have x1:=m1 n (by omega) hlt
        have x2:=n2 n (by omega) (Nat.le_refl _)
        omega
      · exact hge
    have hseg:=seg_filter hu.inc hmn hn m1 m2 n1 n2
    refine slP_nat hmn hn ?_
    rw [Int.toNat_natCast,Int.toNat_natCast,hseg]
    have hmem:∀ x∈u.Items.filter fun x=>decide (f≤x.At∧x.At<t),x∈u.Items∧f≤x.At∧x.At<t:=fun x hx=>by
      have:=List.mem_filter.1 hx
      exact ⟨this.1,of_decide_eq_true this.2⟩
    refine each_part_ok (v:=⟨u.N,u.Items.filter fun x=>decide (f≤x.At∧x.At<t)⟩) ⟨hu.n0,hu.n1,List.Pairwise.filter _ hu.inc,fun x hx=>hu.ins x (hmem x hx).1⟩ hf0 (fun x hx=>(hmem x hx).2.1) ?_
    rw [w64_id (by omega) (by omega)]
    exact hQ
def pieceS (v:Vec) (k i:Int):Vec:=if sideP k∧0≤i∧i<k then partV v (lowS v.N k i) (lowS v.N k (i+1)) else zV
theorem block_Piece_ok {v:Vec} {k i:Int} {Q:Vec→Prop} (hv:VecP v) (hQ:Q (pieceS v k i)):block_Piece v k i Q:=by
  unfold block_Piece
  unfold pieceS at hQ
  have hl:=hv.len
  refine spvec_Right_ok (by omega) ?_
  rw [decide_eq_true hv]
  refine ifP_neg rfl (block_grid_ok (ifP_not (fun hg=>?_) (fun hg=>?_)))
  · rw [if_neg (fun h=>of_decide_eq_false hg ⟨⟨h.1,by unfold sideP; omega⟩,h.2,by omega⟩)] at hQ
    exact hQ
  · have hg:=of_decide_eq_true hg
    rw [if_pos ⟨hg.1.1,hg.2.1⟩] at hQ
    refine block_bounds_ok hg.2.1.1 hg.2.1.2 (spvec_Part_ok (by omega) ?_)
    rw [sureV_id hv]; exact hQ
theorem ref18_Piece_ok {v:Vec} {k i:Int} {Q:Vec→Prop} (hv:VecP v) (hQ:Q (pieceS v k i)):ref18_Piece v k i Q:=by
  unfold ref18_Piece
  unfold pieceS at hQ
  have hl:=hv.len
  refine ref09_Sure_ok (by omega) ?_
  rw [sureV_id hv]
  have hno:¬(sideP k∧0≤i∧i<k)→Q zV:=fun hg=>by rwa [if_neg hg] at hQ
  refine ref18_sides_ok (ifP_not (fun hs=>hno fun hg=>of_decide_eq_false hs ⟨hg.1,hg.1⟩) (fun hs=>?_))
  have hs:=(of_decide_eq_true hs).1
  refine ifP_dec (fun a=>hno fun hg=>by omega) (fun a=>ifP_dec (fun b=>hno fun hg=>by omega) (fun b=>?_))
  rw [if_pos ⟨hs,by omega,by omega⟩] at hQ
  refine ref17_Low_ok (ref17_Low_ok (ref09_Part_ok (by omega) ?_))
  rw [low_w (by omega) (by omega),sureV_id hv]; exact hQ
def mx (a b:Int):Int:=if b > a then b else a
def mn (a b:Int):Int:=if b<a then b else a
def comA (n r c i j:Int):Int:=mx (lowS n r i) (lowS n c j)
def comB (n r c i j:Int):Int:=mx (comA n r c i j) (mn (lowS n r (i+1)) (lowS n c (j+1)))
def sliceS (v:Vec) (n r c i j:Int):Vec:=
  if (0≤n∧n≤4096)∧gridP r c i j∧VecP v∧v.N=sizS n r i then partV v (comA n r c i j - lowS n r i) (comB n r c i j - lowS n r i) else zV
theorem com_le (n r c i j:Int):0≤comA n r c i j∧comA n r c i j≤comB n r c i j∧comB n r c i j≤4096:=by
  have h1:=low_le n r i; have h2:=low_le n c j; have h3:=low_le n r (i+1); have h4:=low_le n c (j+1)
  unfold comB comA mx mn
  repeat' split
  all_goals omega
theorem block_Slice_ok {v:Vec} {n r c i j:Int} {Q:Vec→Prop} (hl:v.Items.length≤1000000000) (hQ:Q (sliceS v n r c i j)):block_Slice v n r c i j Q:=by
  unfold block_Slice
  unfold sliceS at hQ
  have hno:¬((0≤n∧n≤4096)∧gridP r c i j∧VecP v∧v.N=sizS n r i)→Q zV:=fun hg=>by rwa [if_neg hg] at hQ
  refine block_within_ok (ifP_not (fun h=>hno fun hg=>of_decide_eq_false h hg.1) (fun h1=>block_grid_ok (ifP_not (fun h=>hno fun hg=>of_decide_eq_false h hg.2.1) (fun h2=>spvec_Right_ok hl (ifP_not (fun h=>hno fun hg=>of_decide_eq_false h hg.2.2.1) (fun h3=>part_Size_ok (ifP_ne (fun h=>hno fun hg=>h hg.2.2.2) (fun h4=>?_))))))))
  have h1:=of_decide_eq_true h1; have h2:=of_decide_eq_true h2; have h3:=of_decide_eq_true h3
  rw [if_pos ⟨h1,h2,h3,h4⟩] at hQ
  refine block_bounds_ok h2.2.1.1 h2.2.1.2 (block_bounds_ok h2.2.2.1 h2.2.2.2 ?_)
  unfold block_common
  refine spvec_Part_ok hl ?_
  have hc:=com_le n r c i j; have hb:=low_le n r i
  have ea:(if (lowS n c j) > (lowS n r i) then lowS n c j else lowS n r i)=comA n r c i j:=rfl
  have eb:(if (if (lowS n c (j+1))<(lowS n r (i+1)) then lowS n c (j+1) else lowS n r (i+1)) > comA n r c i j then (if (lowS n c (j+1))<(lowS n r (i+1)) then lowS n c (j+1) else lowS n r (i+1)) else comA n r c i j)=comB n r c i j:=rfl
  simp only
  rw [ea,eb,w64_id (by omega) (by omega),w64_id (by omega) (by omega),sureV_id h3]
  exact hQ
def shI (n:Int) (x:Item):Item:=⟨n+x.At,x.Val⟩
def glueS:List Vec→Vec→Vec×Int
  | [],o=>(o,0)
  | v :: l,o=>if 4096<o.N+(sureV v).N then (zV,5) else glueS l ⟨o.N+(sureV v).N,o.Items++(sureV v).Items.map (shI o.N)⟩
theorem each_glue_ok {f:Int} {v:Vec} {Q:Vec→Prop} (hl:v.Items.length≤1000000000) (hf:0≤f∧f≤4096) (hQ:Q ⟨(sureV v).N,(sureV v).Items.map (shI f)⟩):spvec_each_2bc f v Q:=by
  unfold spvec_each_2bc spvec_Glue_1_53d
  have hv:=sureV_ok v
  refine spvec_sure_ok hl ?_
  generalize sureV v=u at hv hQ
  have hl:=hv.len; have:=hv.n1
  refine bclone_ok (by omega) (set_loop (g:=shI f) (by omega) (fun i s next hi' hsl hget hn=>?_) (fun next s hs=>?_))
  · have hx:=hv.ins _ (List.getElem_mem hi')
    refine ifP_dec (fun _=>idxP_nat (by omega) ?_) (fun h=>by omega)
    rw [hget,w64_id (x:=f+(u.Items[i]).At) (by omega) (by omega)]
    exact idxP_nat (by omega) hn
  · subst hs
    exact ifP_dec (fun h=>by omega) (fun _=>hQ)
theorem spvec_Glue_ok {l:List Vec} {Q:Vec×Int→Prop} (hl:l.length≤1000) (hs:∀ v∈l,v.Items.length≤1000000000) (hQ:Q (glueS l zV)):spvec_Glue l Q:=by
  unfold spvec_Glue
  refine range_intro (s0:=zV) (fun (s:Vec) i=>(s.N,s.Items,i)) 0 l.length (by omega) (fun i s=>glueS (l.drop i) s=glueS l zV∧(0≤s.N∧s.N≤4096)∧s.Items.length≤i*4096) (by omega) ⟨rfl,by decide,by decide⟩ (fun i s next _ hi hm hn=>?_) (fun s next hm=>?_)
  · obtain ⟨m1,m2,m3⟩:=hm
    rw [List.drop_eq_getElem_cons hi,glueS] at m1
    have hv:=sureV_ok l[i]
    refine ifP_dec (fun _=>idxP_nat hi (each_glue_ok (hs _ (List.getElem_mem hi)) m2 ?_)) (fun h=>by omega)
    generalize sureV l[i]=u at hv m1
    have:=hv.n0; have:=hv.n1; have:=hv.len
    rw [w64_id (x:=4096 - s.N) (by omega) (by omega)]
    refine ifP_dec (fun h=>?_) (fun h=>appP_intro (by rw [List.length_map]; omega) ?_)
    · rw [if_pos (by simp only at h; omega)] at m1
      rw [←m1] at hQ; exact hQ
    · rw [if_neg (by simp only at h; omega)] at m1
      refine hn ⟨w64 (s.N+u.N),s.Items++u.Items.map (shI s.N)⟩ ⟨?_,?_,?_⟩
      · rw [w64_id (by omega) (by omega)]; exact m1
      · simp only at h; rw [w64_id (by omega) (by omega)]; simp only; omega
      · simp only [List.length_append,List.length_map]; omega
  · obtain ⟨m1,_,_⟩:=hm
    refine ifP_dec (fun h=>by omega) (fun _=>?_)
    rw [List.drop_length,glueS] at m1
    rw [←m1] at hQ; exact hQ
noncomputable def gluedS (size:Nat→Int) (l:List Vec):Vec×Int:=if ∀ (i:Nat) (h:i<l.length),VecP l[i]∧l[i].N=size i then glueS l zV else (zV,4)
noncomputable def glueB (n k:Int) (l:List Vec):Vec×Int:=if ¬((0≤n∧n≤4096)∧sideP k) then (zV,3) else if (l.length:Int)≠k then (zV,4) else gluedS (fun i=>sizS n k i) l
open Classical in
noncomputable def fitB (n r c j:Int) (l:List Vec):Vec×Int:=if ¬((0≤n∧n≤4096)∧gridP r c 0 j) then (zV,3) else if (l.length:Int)≠r then (zV,4) else gluedS (fun i=>comB n r c i j - comA n r c i j) l
theorem block_Glue_ok {n k:Int} {l:List Vec} {Q:Vec×Int→Prop} (hl:l.length≤1000) (hs:∀ v∈l,v.Items.length≤1000000000) (hQ:Q (glueB n k l)):block_Glue n k l Q:=by
  unfold block_Glue block_glued_57b block_Glue_1_d22
  unfold glueB at hQ
  refine block_within_ok (ifP_not (fun h=>?_) (fun h1=>block_side_ok (ifP_not (fun h=>?_) (fun h2=>ifP_ne (fun h=>?_) (fun h3=>?_)))))
  · rwa [if_pos (fun h'=>of_decide_eq_false h h'.1)] at hQ
  · rwa [if_pos (fun h'=>of_decide_eq_false h h'.2)] at hQ
  · rwa [if_neg (fun h'=>h' ⟨of_decide_eq_true h1,of_decide_eq_true h2⟩),if_pos h] at hQ
  rw [if_neg (fun h'=>h' ⟨of_decide_eq_true h1,of_decide_eq_true h2⟩),if_neg (fun h=>h h3)] at hQ
  unfold gluedS at hQ
  refine scan_intro l.length (by omega) (fun i=>∀ (q:Nat) (hq:q<l.length),q<i→VecP l[q]∧l[q].N=sizS n k q) (fun q hq h=>by omega) (fun i next hi hm hn=>?_) (fun next hm=>?_)
  · refine ifP_dec (fun _=>idxP_nat hi (spvec_Right_ok (hs _ (List.getElem_mem hi)) (ifP_not (fun h=>?_) (fun h=>part_Size_ok (ifP_ne (fun h'=>?_) (fun h'=>hn fun q hq hqi=>?_)))))) (fun h=>by omega)
    · rw [if_neg (fun ha=>of_decide_eq_false h (ha i hi).1)] at hQ; exact hQ
    · rw [if_neg (fun ha=>h' (ha i hi).2)] at hQ; exact hQ
    · by_cases e:q=i
      · subst e; exact ⟨of_decide_eq_true h,h'⟩
      · exact hm q hq (by omega)
  · rw [if_pos (fun i hi=>hm i hi hi)] at hQ
    exact ifP_dec (fun h=>by omega) (fun _=>spvec_Glue_ok hl hs hQ)
theorem fit_size {n r c i j:Int} {Q:Int→Prop} (h1:0≤i∧i<r) (h2:0≤j∧j<c) (hQ:Q (comB n r c i j - comA n r c i j)):block_Fit_1_802 n r c j i Q:=by
  unfold block_Fit_1_802 block_common
  refine block_bounds_ok h1.1 h1.2 (block_bounds_ok h2.1 h2.2 ?_)
  have hc:=com_le n r c i j
  have ea:(if (lowS n c j) > (lowS n r i) then lowS n c j else lowS n r i)=comA n r c i j:=rfl
  have eb:(if (if (lowS n c (j+1))<(lowS n r (i+1)) then lowS n c (j+1) else lowS n r (i+1)) > comA n r c i j then (if (lowS n c (j+1))<(lowS n r (i+1)) then lowS n c (j+1) else lowS n r (i+1)) else comA n r c i j)=comB n r c i j:=rfl
  simp only
  rw [ea,eb,w64_id (by omega) (by omega)]
  exact hQ
theorem block_Fit_ok {n r c j:Int} {l:List Vec} {Q:Vec×Int→Prop} (hl:l.length≤1000) (hs:∀ v∈l,v.Items.length≤1000000000) (hQ:Q (fitB n r c j l)):block_Fit n r c j l Q:=by
  unfold block_Fit block_glued_ecf
  unfold fitB at hQ
  refine block_within_ok (ifP_not (fun h=>?_) (fun h1=>block_grid_ok (ifP_not (fun h=>?_) (fun h2=>ifP_ne (fun h=>?_) (fun h3=>?_)))))
  · rwa [if_pos (fun h'=>of_decide_eq_false h h'.1)] at hQ
  · rwa [if_pos (fun h'=>of_decide_eq_false h h'.2)] at hQ
  · rwa [if_neg (fun h'=>h' ⟨of_decide_eq_true h1,of_decide_eq_true h2⟩),if_pos h] at hQ
  have hg:=of_decide_eq_true h2
  rw [if_neg (fun h'=>h' ⟨of_decide_eq_true h1,hg⟩),if_neg (fun h=>h h3)] at hQ
  unfold gluedS at hQ
  refine scan_intro l.length (by omega) (fun i=>∀ (q:Nat) (hq:q<l.length),q<i→VecP l[q]∧l[q].N=comB n r c q j - comA n r c q j) (fun q hq h=>by omega) (fun i next hi hm hn=>?_) (fun next hm=>?_)
  · refine ifP_dec (fun _=>idxP_nat hi (spvec_Right_ok (hs _ (List.getElem_mem hi)) (ifP_not (fun h=>?_) (fun h=>fit_size (by omega) hg.2.2 (ifP_ne (fun h'=>?_) (fun h'=>hn fun q hq hqi=>?_)))))) (fun h=>by omega)
    · rw [if_neg (fun ha=>of_decide_eq_false h (ha i hi).1)] at hQ; exact hQ
    · rw [if_neg (fun ha=>h' (ha i hi).2)] at hQ; exact hQ
    · by_cases e:q=i
      · subst e; exact ⟨of_decide_eq_true h,h'⟩
      · exact hm q hq (by omega)
  · rw [if_pos (fun i hi=>hm i hi hi)] at hQ
    exact ifP_dec (fun h=>by omega) (fun _=>spvec_Glue_ok hl hs hQ)
def smallB (a:Rows):Prop:=a.Start.length≤1000000000000∧a.Col.length≤1000000000000
theorem smallB_of {a:Rows} (h:smallB a) (hr:RightP a):small a:=⟨h.1,h.2,by rw [hr.vl]; exact h.2⟩
theorem right_okb {a:Rows} {Q:Bool→Prop} (hl:smallB a) (hQ:Q (decide (RightP a))):csr_Right a Q:=by
  by_cases hv:a.Val.length=a.Col.length
  · exact right_ok ⟨hl.1,hl.2,by have:=hl.2; omega⟩ hQ
  · have hno:Q false:=by rwa [decide_eq_false (fun h=>hv h.vl)] at hQ
    unfold csr_Right
    exact within_ok (ifP_not (fun _=>hno) (fun _=>within_ok (ifP_not (fun _=>hno) (fun _=>ifP_ne (fun _=>hno) (fun _=>ifP_ne (fun _=>hno) (fun h=>absurd (by omega) hv))))))
def gR (l:List Rows) (k:Nat):Rows:=l.getD k zR
theorem gR_at {l:List Rows} {k:Nat} (h:k<l.length):l[k]=gR l k:=by simp [gR,List.getD_eq_getElem?_getD,h]
def addB (rows cols r:Int) (c:Nat) (k:Nat) (m:Rows):List Triple:=(trip m).map (shT (lowS rows r ((k / c:Nat):Int)) (lowS cols c ((k % c:Nat):Int)))
def allB (rows cols r:Int) (c:Nat) (l:List Rows) (n:Nat):List Triple:=(List.range n).flatMap fun k=>addB rows cols r c k (gR l k)
def goodB (rows cols r:Int) (c:Nat) (k:Nat) (m:Rows):Prop:=RightP m∧m.Rows=sizS rows r ((k / c:Nat):Int)∧m.Cols=sizS cols c ((k % c:Nat):Int)
theorem allB_succ (rows cols r:Int) (c:Nat) (l:List Rows) (n:Nat):allB rows cols r c l (n+1)=allB rows cols r c l n++addB rows cols r c n (gR l n):=by
  unfold allB; rw [List.range_succ,List.flatMap_append,List.flatMap_singleton]
open Classical in
noncomputable def joinS (rows cols r c:Int) (l:List Rows):Rows×Int:=
  if ¬(((0≤rows∧rows≤4096)∧(0≤cols∧cols≤4096))∧sideP r∧sideP c) then (zR,3) else if (l.length:Int)≠r*c then (zR,4)
  else if ∀ (k:Nat),k<l.length→goodB rows cols r c.toNat k (gR l k) then ofS 1 rows cols (allB rows cols r c.toNat l l.length) else (zR,4)
theorem trip_vals {m:Rows} (h:∀ x∈m.Val,inI x):∀ t∈trip m,inI t.Val:=fun t ht=>by
  unfold trip at ht
  obtain ⟨p,_,rfl⟩:=List.mem_map.1 ht
  simp only
  by_cases hp:(p:Int)<m.Val.length
  · exact h _ (at0_mem (by omega) hp)
  · rw [at0_over (by omega)]; unfold inI; omega
theorem sure_right {m:Rows} (h:RightP m):sureS m=builtS m.Rows m.Cols (trip m):=by
  unfold sureS; rw [if_pos h]; exact h.canon.2
theorem siz_le (n k i:Int):0≤sizS n k i∧sizS n k i≤4096:=by
  unfold sizS
  have h1:=low_le n k i; have h2:=low_le n k (i+1); have h3:=low_mono (n:=n) (k:=k) (show i≤i+1 by omega)
  split <;> omega
theorem part_side_ok {k:Int} {Q:Bool→Prop} (hQ:Q (decide (sideP k))):part_side k Q:=by
  unfold part_side
  refine ifP_dec (fun a=>toQ hQ ?_) (fun a=>toQ hQ ?_) <;> (unfold sideP; simp; omega)
theorem part_Row_ok {c k:Nat} {Q:Int→Prop} (hc:sideP c) (hk:k<8*c) (hQ:Q ((k / c:Nat):Int)):part_Row c k Q:=by
  unfold part_Row
  refine part_side_ok ?_
  rw [decide_eq_true hc]
  have hc':=hc
  unfold sideP at hc'
  refine ifP_neg rfl (ifP_dec (fun h=>by omega) (fun _=>?_))
  rw [w64_id (x:=(c:Int)*8) (by omega) (by omega)]
  refine ifP_dec (fun h=>by omega) (fun _=>⟨by omega,?_⟩)
  rw [Int.tdiv_eq_ediv_of_nonneg (by omega),←Int.natCast_ediv]
  have hq:k / c≤k:=Nat.div_le_self _ _
  generalize k / c=q at hq hQ ⊢
  rwa [w64_id (by omega) (by omega)]
theorem part_Col_ok {c k:Nat} {Q:Int→Prop} (hc:sideP c) (hk:k<8*c) (hQ:Q ((k % c:Nat):Int)):part_Col c k Q:=by
  unfold part_Col
  have hc':=hc
  unfold sideP at hc'
  refine part_Row_ok hc hk (ifP_dec (fun h=>absurd h (Int.not_lt.2 (Int.natCast_nonneg _))) (fun _=>⟨by omega,?_⟩))
  rwa [Int.tmod_eq_emod_of_nonneg (by omega),←Int.natCast_emod]
theorem add_loop {a b:Int} {ts:List Triple} {s:List Triple} {body:List Triple×Int→(List Triple×Int→Prop)→Prop} (hl:ts.length≤65536)
    (hs:∀ (i:Nat) (x:List Triple) (next:List Triple×Int→Prop) (hi:i<ts.length),x.length≤s.length+i→(next (x++[shT a b ts[i]],w64 ((i:Int)+1)))→body (x,(i:Int)) next)
    (he:∀ (next:List Triple×Int→Prop) x,x=s++ts.map (shT a b)→body (x,(ts.length:Int)) next):loopP body (s,0):=by
  refine range_intro (s0:=s) (fun (x:List Triple) i=>(x,i)) 0 ts.length (by omega) (fun i x=>x=s++(ts.take i).map (shT a b)) (by omega) (by simp) (fun i x next _ hi hx hn=>?_) (fun x next hx=>?_)
  · refine hs i x next hi (by subst hx; simp only [List.length_append,List.length_map,List.length_take]; omega) (hn _ ?_)
    subst hx
    rw [List.take_succ_eq_append_getElem hi,List.map_append,List.append_assoc]; rfl
  · rw [List.take_length] at hx
    exact he next x hx
theorem block_Join_ok {rows cols r c:Int} {l:List Rows} {Q:Rows×Int→Prop} (hl:l.length≤100) (hs:∀ m∈l,smallB m) (hv:∀ m∈l,∀ x∈m.Val,inI x) (hQ:Q (joinS rows cols r c l)):block_Join rows cols r c l Q:=by
  unfold block_Join joinP
  unfold joinS at hQ
  have hno:¬(((0≤rows∧rows≤4096)∧(0≤cols∧cols≤4096))∧sideP r∧sideP c)→Q (zR,3):=fun h=>by rwa [if_pos h] at hQ
  refine block_within_ok (ifP_not (fun h=>ifP_pos rfl (hno fun h'=>of_decide_eq_false h h'.1.1)) (fun h1=>block_within_ok (ifP_not (fun h=>ifP_pos rfl (hno fun h'=>of_decide_eq_false h h'.1.2)) (fun h2=>block_side_ok (ifP_not (fun h=>ifP_pos rfl (hno fun h'=>of_decide_eq_false h h'.2.1)) (fun h3=>block_side_ok ?_))))))
  refine ifP_not (fun h=>hno fun h'=>of_decide_eq_false h h'.2.2) (fun h4=>?_)
  have h1:=of_decide_eq_true h1; have h2:=of_decide_eq_true h2; have h3:=of_decide_eq_true h3; have h4:=of_decide_eq_true h4
  rw [if_neg (fun h=>h ⟨⟨h1,h2⟩,h3,h4⟩)] at hQ
  have h3':=h3; have h4':=h4
  unfold sideP at h3' h4'
  obtain ⟨rn,rfl⟩:∃ n:Nat,r=n:=⟨r.toNat,by omega⟩
  obtain ⟨cn,rfl⟩:∃ n:Nat,c=n:=⟨c.toNat,by omega⟩
  rw [Int.toNat_natCast] at hQ
  have hrc:(rn:Int)*cn=((rn*cn:Nat):Int):=(Int.natCast_mul _ _).symm
  have hle:rn*cn≤8*cn:=Nat.mul_le_mul_right _ (by omega)
  rw [hrc] at hQ ⊢
  rw [w64_id (by omega) (by omega)]
  refine ifP_ne (fun h=>by rwa [if_pos h] at hQ) (fun h5=>?_)
  rw [if_neg (fun h=>h h5)] at hQ
  refine range_intro (s0:=([]:List Triple)) (fun (s:List Triple) i=>(s,i)) 0 l.length (by omega) (fun k s=>s=allB rows cols rn cn l k∧s.length≤k*65536∧∀ q,q<k→goodB rows cols rn cn q (gR l q)) (by omega) ⟨rfl,by simp,fun q h=>by omega⟩ (fun k s next _ hk hm hn=>?_) (fun s next hm=>?_)
  · obtain ⟨m1,m2,m3⟩:=hm
    have hmem:=List.getElem_mem hk
    have hbad:¬goodB rows cols rn cn k (gR l k)→Q (zR,4):=fun h=>by
      rw [if_neg (fun ha=>h (ha k hk))] at hQ; exact hQ
    have hgood:goodB rows cols rn cn k (gR l k)→∀ s',s'=allB rows cols rn cn l (k+1)∧s'.length≤(k+1)*65536→next (s',w64 ((k:Int)+1)):=fun h s' hs'=>hn s' ⟨hs'.1,hs'.2,fun q hq=>by
      by_cases e:q=k
      · subst e; exact h
      · exact m3 q (by omega)⟩
    have hsm:=hs _ hmem
    refine ifP_dec (fun _=>idxP_nat hk (part_Row_ok h4 (by omega) (part_Col_ok h4 (by omega) ?_))) (fun h=>by omega)
    rw [allB_succ] at hgood
    rw [gR_at hk] at hsm ⊢
    unfold goodB at hbad hgood
    generalize hmm:gR l k=m at hsm hbad hgood ⊢
    refine right_okb hsm (ifP_not (fun h=>hbad fun h'=>of_decide_eq_false h h'.1) (fun h=>part_Size_ok (ifP_ne (fun h'=>hbad fun hg=>h' hg.2.1) (fun g2=>part_Size_ok (ifP_ne (fun h'=>hbad fun hg=>h' hg.2.2) (fun g3=>?_))))))
    have g1:=of_decide_eq_true h
    have hcan:=g1.canon.1
    have hsz:=siz_le rows rn ((k / cn:Nat):Int); have hsz2:=siz_le cols cn ((k % cn:Nat):Int)
    refine csr_triples_ok (smallB_of hsm g1) (sure_right g1) hcan (add_loop (a:=lowS rows rn ((k / cn:Nat):Int)) (b:=lowS cols cn ((k % cn:Nat):Int)) hcan.len (fun i x nx hi hx hnx=>?_) (fun nx x hx=>?_))
    · have ht:=hcan.inn _ (List.getElem_mem hi)
      unfold inT at ht
      have b1:=low_le rows rn ((k / cn:Nat):Int); have b2:=low_le cols cn ((k % cn:Nat):Int)
      have hll:=hcan.len
      refine ifP_dec (fun _=>idxP_nat hi (part_Low_ok (part_Low_ok ?_))) (fun h=>by omega)
      rw [w64_id (x:=((trip m)[i]).Row+_) (by omega) (by omega),w64_id (x:=((trip m)[i]).Col+_) (by omega) (by omega)]
      exact appP_intro (by simp; omega) hnx
    · refine ifP_dec (fun h=>by omega) (fun _=>hgood ⟨g1,g2,g3⟩ x ⟨?_,?_⟩)
      · rw [hx,m1]; rfl
      · rw [hx,List.length_append,List.length_map]; have:=hcan.len; omega
  · obtain ⟨m1,m2,m3⟩:=hm
    refine ifP_dec (fun h=>by omega) (fun _=>?_)
    rw [if_pos m3,←m1] at hQ
    refine Of_ok (by omega) (fun t ht=>?_) hQ
    rw [m1] at ht
    unfold allB at ht
    obtain ⟨k,hk,hx⟩:=List.mem_flatMap.1 ht
    unfold addB at hx
    obtain ⟨u,hu,rfl⟩:=List.mem_map.1 hx
    have hk:=List.mem_range.1 hk
    exact trip_vals (hv (gR l k) (by rw [←gR_at hk]; exact List.getElem_mem hk)) u hu
end Go.Proofs.YtpackolbhcmomaaGreat
