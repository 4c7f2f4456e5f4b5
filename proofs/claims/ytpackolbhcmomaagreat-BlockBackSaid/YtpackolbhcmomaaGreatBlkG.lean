import Derived.Test.YtpackolbhcmomaaGreatOK
import Derived.Test.YtpackolbhcmomaaGreatBlkF
namespace Go.Proofs.YtpackolbhcmomaaGreat
open Go Go.Fw
set_option linter.unusedVariables false
set_option linter.unusedSimpArgs false
theorem cutG_small {rows cols r c i j:Int} {T:List Triple} (h:Canon rows cols T):small (cutG rows cols T r c i j):=by
  unfold cutG
  split
  · exact (cut_canon h _ _).sml
  · exact canon_empty.sml
theorem partV_len (u:Vec) (a b:Int):(partV u a b).Items.length≤u.Items.length:=by
  unfold partV
  by_cases h:(if u.N<b then u.N else b)≤(if 0 > a then 0 else a)
  · rw [if_pos h]; simp [zV]
  · rw [if_neg h]; simp only [List.length_map]; exact List.length_filter_le _ _
theorem map_flat {α β:Type} (f:α→β):∀ l:List α,l.map f=l.flatMap fun x=>[f x]
  | []=>rfl
  | x :: l=>by rw [List.map_cons,List.flatMap_cons,map_flat f l]; rfl
theorem piece_len (v:Vec) (k i:Int):(pieceS v k i).Items.length≤v.Items.length:=by
  unfold pieceS; split
  · exact partV_len _ _ _
  · simp [zV]
theorem side_ok {x:Int} {Q:Int→Prop} (h:inR .u8 x) (hQ:∀ n:Nat,sideP n→Q n):law18_Side x Q:=by
  unfold law18_Side
  have hb:=bounds_u8 h
  have e:w64 ((w64 x).tmod 8+1)=((x.toNat % 8+1:Nat):Int):=by
    rw [w64_id (x:=x) (by omega) (by omega),Int.tmod_eq_emod_of_nonneg (by omega),w64_id (by omega) (by omega)]; omega
  rw [e]
  exact hQ _ (by unfold sideP; omega)
theorem trip_built {rows cols:Int} {T:List Triple} (h:Canon rows cols T):trip (builtS rows cols T)=T:=by
  have hr:=h.right
  have hc:=hr.canon
  have h1:Canon rows cols (trip (builtS rows cols T)):=hc.1
  exact (built_canon h h1 hc.2).symm
theorem keys_srt {T:List Triple} (h:Srt T):keysOk (T.map kvT):=by
  unfold keysOk
  rw [List.map_map]
  have:(T.map key).Nodup:=by
    unfold List.Nodup
    rw [List.pairwise_map]
    exact h.imp fun {a b} hab e=>by rw [e] at hab; exact ltK_irrefl _ hab
  exact this
def segI (v:Vec) (x y:Int):Vec:=⟨y - x,(v.Items.filter fun t=>decide (x≤t.At∧t.At<y)).map fun t=>⟨t.At - x,t.Val⟩⟩
theorem seg_app {v:Vec} (hv:VecP v) {a x y:Int} (h1:a≤x) (h2:x≤y):(segI v a y).Items=(segI v a x).Items++((segI v x y).Items.map (shI (x - a))):=by
  unfold segI
  simp only
  have key:∀ l:List Item,IncI l→l.filter (fun t=>decide (a≤t.At∧t.At<y))=l.filter (fun t=>decide (a≤t.At∧t.At<x))++l.filter (fun t=>decide (x≤t.At∧t.At<y)):=by
    intro l
    induction l with
    | nil=>intro _; rfl
    | cons t l ih=>
      intro hi
      have hi2:=List.pairwise_cons.1 hi
      have ih:=ih hi2.2
      by_cases c1:a≤t.At∧t.At<x
      · rw [List.filter_cons_of_pos (by simp; omega),List.filter_cons_of_pos (by simp; omega),List.filter_cons_of_neg (by simp; omega),ih]; rfl
      · by_cases c2:x≤t.At∧t.At<y
        · have hn:l.filter (fun t=>decide (a≤t.At∧t.At<x))=[]:=List.filter_eq_nil_iff.2 fun u hu=>by
            have:=hi2.1 u hu; simp only [decide_eq_true_eq]; omega
          rw [List.filter_cons_of_pos (by simp; omega),List.filter_cons_of_neg (by simp; omega),List.filter_cons_of_pos (by simp; omega),ih,hn]; rfl
        · rw [List.filter_cons_of_neg (by simp; omega),List.filter_cons_of_neg (by simp; omega),List.filter_cons_of_neg (by simp; omega),ih]
  rw [key _ hv.inc,List.map_append,List.map_map]
  congr 1
  refine List.map_congr_left fun t _=>?_
  unfold shI
  simp only [Function.comp_apply,Item.mk.injEq]
  exact ⟨by omega,trivial⟩
theorem glue_run {v:Vec} (hv:VecP v) {u:Nat→Vec} {cl:Nat→Int} (hb:∀ i,0≤cl i∧cl i≤v.N) (hm:∀ i,cl i≤cl (i+1)):∀ (n i:Nat),(∀ k,k<i+n→sureV (u k)=segI v (cl k) (cl (k+1))) →
    glueS ((List.range' i n).map u) (segI v (cl 0) (cl i))=(segI v (cl 0) (cl (i+n)),0)
  | 0,i,_=>rfl
  | n+1,i,hu=>by
    have h1:=hu i (by omega)
    have h0:cl 0≤cl i:=by
      clear hu h1
      induction i with
      | zero=>exact Int.le_refl _
      | succ i ih=>exact Int.le_trans ih (hm i)
    have hi:=hm i
    have b0:=hb 0; have b1:=hb (i+1)
    have:=hv.n1
    rw [List.range'_succ,List.map_cons,glueS,h1]
    have e1:(segI v (cl 0) (cl i)).N=cl i - cl 0:=rfl
    have e2:(segI v (cl i) (cl (i+1))).N=cl (i+1) - cl i:=rfl
    rw [if_neg (by rw [e1,e2]; omega)]
    have e3:(⟨(segI v (cl 0) (cl i)).N+(segI v (cl i) (cl (i+1))).N,(segI v (cl 0) (cl i)).Items++(segI v (cl i) (cl (i+1))).Items.map (shI (segI v (cl 0) (cl i)).N)⟩:Vec)=segI v (cl 0) (cl (i+1)):=by
      rw [e1,e2,←seg_app hv h0 hi]
      unfold segI
      rw [show cl i - cl 0+(cl (i+1) - cl i)=cl (i+1) - cl 0 by omega]
    rw [e3,glue_run hv hb hm n (i+1) (fun k hk=>hu k (by omega)),show i+1+n=i+(n+1) by omega]
theorem seg_all {v:Vec} (hv:VecP v):segI v 0 v.N=v:=by
  unfold segI
  have e:v.Items.filter (fun t=>decide (0≤t.At∧t.At<v.N))=v.Items:=List.filter_eq_self.2 fun t ht=>by have:=hv.ins t ht; simpa using this
  rw [e]
  obtain ⟨n,l⟩:=v
  simp only [Int.sub_zero,Vec.mk.injEq,true_and]
  conv=>rhs; rw [←List.map_id l]
  rfl
theorem seg_zero (v:Vec) (x:Int):segI v x x=zV:=by
  unfold segI zV
  rw [List.filter_eq_nil_iff.2 (fun t _=>by simp only [decide_eq_true_eq]; omega),Int.sub_self]; rfl
theorem part_seg {v:Vec} (hv:VecP v) {a b:Int} (h0:0≤a) (h1:a≤b) (h2:b≤v.N):partV v a b=segI v a b:=part_is hv h0 h1 h2
theorem seg_P {v:Vec} (hv:VecP v) {a b:Int} (h0:0≤a) (h1:a≤b) (h2:b≤v.N):VecP (segI v a b):=by rw [←part_seg hv h0 h1 h2]; exact (part_prop hv h0 h1 h2).1
theorem piece_seg {v:Vec} (hv:VecP v) {k i:Int} (hk:sideP k) (hi:0≤i∧i<k):pieceS v k i=segI v (lowS v.N k i) (lowS v.N k (i+1)):=by
  have h1:=low_b (n:=v.N) (k:=k) (i:=i); have h2:=low_b (n:=v.N) (k:=k) (i:=i+1); have h3:=low_mono (n:=v.N) (k:=k) (show i≤i+1 by omega)
  unfold pieceS
  rw [if_pos ⟨hk,hi⟩,part_seg hv h1.1 h3 (h2.2 hv.n0)]
theorem BlockBack_ok (a0:Law13_Task) (a1 a2:Int) (h0:okLaw13_Task a0) (h1:inR .u8 a1) (h2:inR .u8 a2):law18_BlockBack a0 a1 a2 (fun r=>r=true):=by
  unfold law18_BlockBack
  refine task_mat_ok h0 fun M hM hMv=>task_vec_ok h0 h0.2.2.2.1.1 fun v hvn hv hvv=>side_ok h1 fun p hp=>side_ok h2 fun q hq=>?_
  generalize sizeS a0.Size.1=rows at hM
  generalize sizeS a0.Size.2=cols at hM hvn
  have hp':=hp; have hq':=hq
  unfold sideP at hp' hq'
  have hpq:p*q≤8*q:=Nat.mul_le_mul_right _ (by omega)
  have hlen:∀ (i n:Nat),((List.range i).flatMap fun i:Nat=>(List.range n).map fun j:Nat=>cutG rows cols M p q i j).length=i*n:=by
    intro i n
    induction i with
    | zero=>simp
    | succ i ih=>rw [List.range_succ,List.flatMap_append,List.length_append,ih,List.flatMap_singleton,List.length_map,List.length_range,Nat.succ_mul]
  have hR:(builtS rows cols M).Rows=rows:=rfl
  have hC:(builtS rows cols M).Cols=cols:=rfl
  refine range_intro (s0:=([]:List Rows)) (fun (s:List Rows) i=>(s,i)) 0 p (by omega) (fun i s=>s=(List.range i).flatMap fun i:Nat=>(List.range q).map fun j:Nat=>cutG rows cols M p q i j) (by omega) (by simp) (fun i s next _ hi hs hn=>?_) (fun s next hs=>?_)
  · have hli:=hlen i q
    have hin:i*q≤p*q:=Nat.mul_le_mul_right _ (by omega)
    refine ifP_dec (fun _=>?_) (fun h=>by omega)
    refine range_intro (s0:=s) (fun (x:List Rows) j=>(x,j)) 0 q (by omega) (fun j x=>x=s++(List.range j).map fun j:Nat=>cutG rows cols M p q i j) (by omega) (by simp) (fun j x nx _ hj hx hnx=>?_) (fun x nx hx=>?_)
    · refine ifP_dec (fun _=>block_Cut_ok hM (appP_intro (by rw [hx,hs,List.length_append,hli]; simp; omega) (hnx _ ?_))) (fun h=>by omega)
      rw [hx,List.range_succ,List.map_append,List.append_assoc]; rfl
    · refine ifP_dec (fun h=>by omega) (fun _=>hn _ ?_)
      rw [hx,hs,List.range_succ,List.flatMap_append,List.flatMap_singleton]
  refine ifP_dec (fun h=>by omega) (fun _=>?_)
  refine range_intro (s0:=([]:List Vec)) (fun (s:List Vec) i=>(s,i)) 0 p (by omega) (fun i s=>s=(List.range i).map fun i:Nat=>pieceS v p i) (by omega) (by simp) (fun i w next _ hi hw hn=>?_) (fun w next hw=>?_)
  · refine ifP_dec (fun _=>block_Piece_ok hv (appP_intro (by rw [hw]; simp; omega) (hn _ ?_))) (fun h=>by omega)
    rw [hw,List.range_succ,List.map_append]; rfl
  refine ifP_dec (fun h=>by omega) (fun _=>?_)
  have hsl:=hlen p q
  rw [←hs] at hsl
  have hsi:∀ k,k<s.length→gR s k=cutG rows cols M p q ((k / q:Nat):Int) ((k % q:Nat):Int):=by
    intro k hk
    have e:=grid_flat (q:=q) (by omega) (fun i j=>[cutG rows cols M p q (i:Int) (j:Int)]) p
    have e2:s=(List.range (p*q)).map fun k=>cutG rows cols M p q ((k / q:Nat):Int) ((k % q:Nat):Int):=by
      rw [hs,map_flat,e]
      exact flatMap_same fun i _=>map_flat _ _
    rw [←gR_at hk]
    simp [e2]
  have hdiv:∀ k,k<s.length→gridP (p:Int) (q:Int) ((k / q:Nat):Int) ((k % q:Nat):Int):=by
    intro k hk
    have h1:k / q<p:=(Nat.div_lt_iff_lt_mul (by omega)).2 (by omega)
    have h2:k % q<q:=Nat.mod_lt _ (by omega)
    refine ⟨⟨hp,hq⟩,?_,?_⟩
    · generalize k / q=x at h1; omega
    · generalize k % q=x at h2; omega
  have hcan:=fun k hk=>cutG_canon hM (hdiv k hk)
  have hms:∀ m∈s,∃ k,k<s.length∧m=cutG rows cols M p q ((k / q:Nat):Int) ((k % q:Nat):Int):=fun m hm=>by
    obtain ⟨k,hk,rfl⟩:=List.getElem_of_mem hm
    exact ⟨k,hk,by rw [gR_at hk,hsi k hk]⟩
  have hJ:joinS rows cols p q s=(builtS rows cols M,0):=by
    unfold joinS
    rw [if_neg (fun h=>h ⟨⟨⟨hM.r0,hM.r1⟩,hM.c0,hM.c1⟩,hp,hq⟩),if_neg (by rw [hsl,Int.natCast_mul]; simp),Int.toNat_natCast,if_pos]
    · have e:allB rows cols p q s s.length=(List.range p).flatMap fun i:Nat=>(List.range q).flatMap fun j:Nat=>(cutT (lowS rows p i) (lowS rows p ((i:Int)+1)) (lowS cols q j) (lowS cols q ((j:Int)+1)) M).map (shT (lowS rows p i) (lowS cols q j)):=by
        unfold allB
        rw [hsl,←grid_flat (q:=q) (by omega) (fun i j=>(cutT (lowS rows p i) (lowS rows p ((i:Int)+1)) (lowS cols q j) (lowS cols q ((j:Int)+1)) M).map (shT (lowS rows p i) (lowS cols q j))) p]
        refine flatMap_same fun k hk=>?_
        have hk:k<s.length:=by rw [hsl]; exact List.mem_range.1 hk
        rw [hsi k hk,(hcan k hk).1]
        unfold addB
        rw [trip_built (hcan k hk).2]
      have hperm:=blocks_perm hM (p:=p) (q:=q) ⟨⟨hM.r0,hM.r1⟩,hp⟩ ⟨⟨hM.c0,hM.c1⟩,hq⟩
      rw [e,←ofS_perm (keys_srt hM.srt) hperm.symm]
      exact of_self hM hMv (by omega)
    · intro k hk
      rw [hsi k hk,(hcan k hk).1]
      exact ⟨(hcan k hk).2.right,rfl,rfl⟩
  rw [hR,hC]
  refine block_Join_ok (by omega) (fun m hm=>?_) (fun m hm x hx=>?_) ?_
  · obtain ⟨k,hk,rfl⟩:=hms m hm
    have:=cutG_small (r:=p) (c:=q) (i:=((k / q:Nat):Int)) (j:=((k % q:Nat):Int)) hM
    exact ⟨this.1,this.2.1⟩
  · obtain ⟨k,hk,rfl⟩:=hms m hm
    rw [(hcan k hk).1] at hx
    obtain ⟨t,ht,rfl⟩:=List.mem_map.1 hx
    exact Tb_vals (rows:=rows) (cols:=cols) (p:=p) (q:=q) (i:=((k / q:Nat):Int)) (j:=((k % q:Nat):Int)) hMv t ht
  rw [hJ]
  have hpl:∀ u∈w,u.Items.length≤1000000000:=fun u hu=>by
    rw [hw] at hu
    obtain ⟨i,_,rfl⟩:=List.mem_map.1 hu
    have:=piece_len v p i; have:=hv.len; omega
  have hwl:w.length=p:=by rw [hw]; simp
  have hmv:mayP v.N p:=⟨⟨hv.n0,hv.n1⟩,hp⟩
  refine block_Glue_ok (by omega) hpl ?_
  have hG:glueB v.N p w=(v,0):=by
    unfold glueB gluedS
    rw [if_neg (fun h=>h ⟨⟨hv.n0,hv.n1⟩,hp⟩),if_neg (by omega),if_pos]
    · have hrun:=glue_run hv (u:=fun i:Nat=>pieceS v p i) (cl:=fun i:Nat=>lowS v.N p i) (fun i=>⟨low_b.1,low_b.2 hv.n0⟩) (fun i=>low_mono (by omega)) p 0 (fun k hk=>by
        rw [piece_seg hv hp (by omega),sureV_id]
        · rw [Int.natCast_add,Int.natCast_one]
        · exact seg_P hv low_b.1 (low_mono (by omega)) (low_b.2 hv.n0))
      simp only [Int.natCast_zero,low_zero,Nat.zero_add] at hrun
      rw [seg_zero,low_top hmv,seg_all hv,←List.range_eq_range'] at hrun
      rw [hw]; exact hrun
    · intro i hi
      have e:w[i]=pieceS v p i:=by simp [hw]
      rw [e]
      have:=piece_is hv hp (j:=(i:Int)) (by omega)
      exact ⟨this.1,this.2.1⟩
  rw [hG]
  exact live18_ok (ifP_pos rfl (ifP_pos rfl (ifP_pos rfl (ref_same_ok hM.sml (ifP_pos (by simp) (ref09_Same_ok (by have:=hv.len; show v.Items.length≤_; omega) rfl))))))
end Go.Proofs.YtpackolbhcmomaaGreat
