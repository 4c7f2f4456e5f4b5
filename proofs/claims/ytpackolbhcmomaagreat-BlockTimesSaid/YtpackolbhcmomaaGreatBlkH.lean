import Derived.Test.YtpackolbhcmomaaGreatBlkD
namespace Go.Proofs.YtpackolbhcmomaaGreat
open Go Go.Fw
set_option linter.unusedVariables false
set_option linter.unusedSimpArgs false
def shS (a:Int) (s:Sum):Sum:=⟨s.At+a,s.Val⟩
def Tb (rows cols:Int) (T:List Triple) (p q i j:Int):List Triple:=cutT (lowS rows p i) (lowS rows p (i+1)) (lowS cols q j) (lowS cols q (j+1)) T
def blkB (r rows cols:Int) (T:List Triple) (v:Vec) (p q i j:Int):List Sum:=sumsS r (sizS rows p i).toNat (sizS cols q j).toNat [] true (fun a=>lkI (rowI (Tb rows cols T p q i j) a)) (lkI (pieceS v q j).Items)
def blkL (r rows cols:Int) (T:List Triple) (v:Vec) (p q i j:Int):List Sum:=(blkB r rows cols T v p q i j).map (shS (lowS rows p i))
def rowL (r rows cols:Int) (T:List Triple) (v:Vec) (p q:Int) (i:Nat) (n:Nat):List (List Sum):=(List.range n).map fun j:Nat=>blkL r rows cols T v p q i j
def LL (r rows cols:Int) (T:List Triple) (v:Vec) (p q:Int) (m n:Nat):List (List Sum):=(List.range m).flatMap fun i:Nat=>rowL r rows cols T v p q i n
open Classical in
noncomputable def timesB (r rows cols:Int) (T:List Triple) (v:Vec) (p q:Int):List Sum×Int:=
  if ¬(1≤r∧r≤5) then ([],8) else if ¬(sideP p∧sideP q) then ([],3) else if v.N≠cols then ([],4) else mergeP r (LL r rows cols T v p q p.toNat q.toNat)
theorem piece_is {v:Vec} (hv:VecP v) {q j:Int} (hq:sideP q) (hj:0≤j∧j<q):VecP (pieceS v q j)∧(pieceS v q j).N=sizS v.N q j∧(∀ k,0≤k→k<sizS v.N q j→lkI (pieceS v q j).Items k=lkI v.Items (k+lowS v.N q j))∧((∀ x∈v.Items,inI x.Val)→∀ x∈(pieceS v q j).Items,inI x.Val):=by
  have h1:=low_b (n:=v.N) (k:=q) (i:=j); have h2:=low_b (n:=v.N) (k:=q) (i:=j+1)
  have h3:=low_mono (n:=v.N) (k:=q) (show j≤j+1 by omega)
  have:=part_prop hv h1.1 h3 (h2.2 hv.n0)
  unfold pieceS sizS
  rw [if_pos ⟨hq,hj⟩,if_pos hj]
  exact this
theorem siz_n {n k i:Int} (hn:0≤n):0≤sizS n k i∧sizS n k i≤n:=by
  unfold sizS
  have h1:=low_b (n:=n) (k:=k) (i:=i); have h2:=low_b (n:=n) (k:=k) (i:=i+1); have h3:=low_mono (n:=n) (k:=k) (show i≤i+1 by omega)
  have:=h2.2 hn
  split <;> omega
theorem Tb_vals {rows cols:Int} {T:List Triple} {p q i j:Int} (h:∀ t∈T,inI t.Val):∀ t∈Tb rows cols T p q i j,inI t.Val:=fun t ht=>by
  have:=h _ ((cut_mem t).1 ht).1
  exact this
theorem rise_sh {a:Int} {l:List Sum} (h:Rise l):Rise (l.map (shS a)):=by
  unfold Rise at *
  rw [List.pairwise_map]
  exact h.imp fun {x y} hxy=>by unfold shS; simp only; omega
theorem lk_sh {a:Int}:∀ (l:List Sum) (i:Int),lk (l.map (shS a)) i=lk l (i - a)
  | [],_=>rfl
  | s :: l,i=>by
    rw [List.map_cons,lk_cons,lk_cons,lk_sh l i]
    unfold shS
    simp only
    by_cases e:i=s.At+a
    · rw [if_pos e,if_pos (by omega)]
    · rw [if_neg e,if_neg (by omega)]
theorem hasF_nil {x:Int}:hasF [] x=false:=by
  by_cases hx:x<0
  · exact hasF_neg hx
  · exact hasF_over (by simp; omega)
theorem blk_prop (r rows cols:Int) (T:List Triple) (v:Vec) (p q i j:Int):Rise (blkL r rows cols T v p q i j)∧(blkL r rows cols T v p q i j).length≤(sizS rows p i).toNat∧okS (blkL r rows cols T v p q i j) ∧
    ∀ x:Int,lk (blkL r rows cols T v p q i j) x=if 0≤x - lowS rows p i∧x - lowS rows p i<((sizS rows p i).toNat:Nat) then rowW r (sizS cols q j).toNat (lkI (rowI (Tb rows cols T p q i j) (x - lowS rows p i))) (lkI (pieceS v q j).Items) else none:=by
  have h:=sumsS_prop r (sizS cols q j).toNat [] true (fun a=>lkI (rowI (Tb rows cols T p q i j) a)) (lkI (pieceS v q j).Items) (sizS rows p i).toNat
  unfold blkL blkB
  refine ⟨rise_sh h.1,by rw [List.length_map]; exact h.2.1,fun s hs=>?_,fun x=>?_⟩
  · obtain ⟨u,hu,rfl⟩:=List.mem_map.1 hs
    exact h.2.2.1 u hu
  · rw [lk_sh,h.2.2.2.2]
    have ha:askF [] true (x - lowS rows p i)=true:=by unfold askF; rw [hasF_nil]; rfl
    by_cases hc:0≤x - lowS rows p i∧x - lowS rows p i<((sizS rows p i).toNat:Nat)
    · rw [if_pos ⟨hc.1,hc.2,ha⟩,if_pos hc]
    · rw [if_neg (fun h'=>hc ⟨h'.1,h'.2.1⟩),if_neg hc]
theorem rowW_none (r:Int) (A:Int→Option Int):∀ n:Nat,rowW r n A (fun _=>none)=none
  | 0=>rfl
  | n+1=>by
    rw [rowW_succ,rowW_none r A n]
    unfold stepW
    cases A n <;> rfl
theorem blk_empty {r rows cols:Int} {T:List Triple} {v:Vec} {p q i j:Int} (h:(pieceS v q j).Items=[]):blkL r rows cols T v p q i j=[]:=by
  have hp:=blk_prop r rows cols T v p q i j
  refine rise_ext hp.1 .nil fun x=>?_
  rw [hp.2.2.2,h]
  have e:lkI []=fun _=>none:=rfl
  rw [e,rowW_none,lk_nil]
  split <;> rfl
theorem total_le {m:Nat}:∀ {L:List (List Sum)},(∀ l∈L,l.length≤m)→total L≤L.length*m
  | [],_=>by simp [total]
  | x :: L,h=>by
    have h1:=total_le fun l hl=>h l (List.mem_cons_of_mem _ hl)
    have h2:=h x List.mem_cons_self
    unfold total at h1 ⊢
    simp only [List.map_cons,List.foldr_cons,List.length_cons,Nat.succ_mul]
    omega
theorem LL_mem {r rows cols:Int} {T:List Triple} {v:Vec} {p q:Int} {m n:Nat} {l:List Sum} (h:l∈LL r rows cols T v p q m n):∃ i j:Nat,i<m∧j<n∧l=blkL r rows cols T v p q i j:=by
  unfold LL rowL at h
  obtain ⟨i,hi,hx⟩:=List.mem_flatMap.1 h
  obtain ⟨j,hj,rfl⟩:=List.mem_map.1 hx
  exact ⟨i,j,List.mem_range.1 hi,List.mem_range.1 hj,rfl⟩
theorem LL_len (r rows cols:Int) (T:List Triple) (v:Vec) (p q:Int) (n:Nat):∀ m:Nat,(LL r rows cols T v p q m n).length=m*n
  | 0=>by simp [LL]
  | m+1=>by
    have ih:=LL_len r rows cols T v p q n m
    unfold LL rowL at ih ⊢
    rw [List.range_succ,List.flatMap_append,List.length_append,ih,List.flatMap_singleton,List.length_map,List.length_range,Nat.succ_mul]
theorem blk_push {r rows cols:Int} {T:List Triple} {v:Vec} {p q i j:Int} {Q:List Sum×Int→Prop} (h:Canon rows cols T) (hT:∀ t∈T,inI t.Val) (hr:1≤r∧r≤5) (hv:VecP v) (hvv:∀ x∈v.Items,inI x.Val) (hn:v.N=cols) (hg:gridP p q i j)
    (hQ:Q (blkB r rows cols T v p q i j,0)):dcsc_Of (cutG rows cols T p q i j) fun c=>push_Sums r c (pieceS v q j) [] true Q:=by
  obtain ⟨e,hc⟩:=cutG_canon h hg
  have hp:=piece_is hv hg.1.2 hg.2.2
  rw [hn] at hp
  have hct:=turn_canon hc
  rw [e]
  refine dcsc_of_ok hc.sml (sure_built hc) (fun _=>rfl) (fun h'=>absurd hc.right h') hc (push_Sums_ok hct.smlC (sureC_col hct) hct (turnT_vals hc (Tb_vals hT)) (by have:=hp.1.len; omega) (by rw [sureV_id hp.1]; exact hp.2.2.2 hvv) nil_okF ?_)
  rw [sureV_id hp.1,←sums_turn hct,turn_turn hc]
  unfold sumsR
  rw [if_neg (fun h=>h hr),if_neg (fun h=>h hp.2.1)]
  exact hQ
theorem blk_pull {r rows cols:Int} {T:List Triple} {v:Vec} {p q i j:Int} {Q:List Sum×Int→Prop} (h:Canon rows cols T) (hT:∀ t∈T,inI t.Val) (hr:1≤r∧r≤5) (hv:VecP v) (hvv:∀ x∈v.Items,inI x.Val) (hn:v.N=cols) (hg:gridP p q i j)
    (hQ:Q (blkB r rows cols T v p q i j,0)):ref10_Of (pieceS v q j) fun x=>ref13_Sums r (cutG rows cols T p q i j) x [] true Q:=by
  obtain ⟨e,hc⟩:=cutG_canon h hg
  have hp:=piece_is hv hg.1.2 hg.2.2
  rw [hn] at hp
  rw [e]
  refine ref10_Of_ok (by have:=hp.1.len; omega) ?_
  rw [sureV_id hp.1]
  refine ref13_Sums_ok hc.sml (sure_built hc) hc (Tb_vals hT) hp.1 (hp.2.2.2 hvv) nil_okF ?_
  unfold sumsR
  rw [if_neg (fun h=>h hr),if_neg (fun h=>h hp.2.1)]
  exact hQ
theorem ref18_Times_ok {r rows cols:Int} {T:List Triple} {v:Vec} {p q:Int} {Q:List Sum×Int→Prop} (h:Canon rows cols T) (hT:∀ t∈T,inI t.Val) (hrow:rows≤1000) (hv:VecP v) (hvv:∀ x∈v.Items,inI x.Val) (hQ:Q (timesB r rows cols T v p q)):ref18_Times r (builtS rows cols T) v p q Q:=by
  unfold ref18_Times
  unfold timesB at hQ
  refine ref_sure_ok h.sml ?_
  rw [sure_built h]
  refine ref09_Sure_ok (by have:=hv.len; omega) ?_
  rw [sureV_id hv]
  refine ref02_Is_ok (ifP_not (fun h1=>by rwa [if_pos (of_decide_eq_false h1)] at hQ) (fun h1=>ref18_sides_ok (ifP_not (fun h2=>?_) (fun h2=>ifP_ne (fun h3=>?_) (fun h3=>?_)))))
  · rwa [if_neg (fun h=>h (of_decide_eq_true h1)),if_pos (of_decide_eq_false h2)] at hQ
  · rwa [if_neg (fun h=>h (of_decide_eq_true h1)),if_neg (fun h=>h (of_decide_eq_true h2)),if_pos (show v.N≠cols from h3)] at hQ
  have h1:=of_decide_eq_true h1; have h2:=of_decide_eq_true h2
  rw [if_neg (fun h=>h h1),if_neg (fun h=>h h2),if_neg (fun h=>h h3)] at hQ
  have h3:v.N=cols:=h3
  have hp:=h2.1; have hq:=h2.2
  unfold sideP at hp hq
  obtain ⟨m,rfl⟩:∃ n:Nat,p=n:=⟨p.toNat,by omega⟩
  obtain ⟨n,rfl⟩:∃ n:Nat,q=n:=⟨q.toNat,by omega⟩
  rw [Int.toNat_natCast,Int.toNat_natCast] at hQ
  have hmn:m*n≤8*n:=Nat.mul_le_mul_right _ (by omega)
  have hlen:=LL_len r rows cols T v m n n
  refine range_intro (s0:=([]:List (List Sum))) (fun (s:List (List Sum)) i=>(s,i)) 0 m (by omega) (fun i s=>s=LL r rows cols T v m n i n) (by omega) (by simp [LL]) (fun i s next _ hi hs hn=>?_) (fun s next hs=>?_)
  · have hli:=hlen i
    have hin:i*n≤m*n:=Nat.mul_le_mul_right _ (by omega)
    refine ifP_dec (fun _=>?_) (fun h=>by omega)
    refine range_intro (s0:=s) (fun (x:List (List Sum)) j=>(x,j)) 0 n (by omega) (fun j x=>x=LL r rows cols T v m n i n++rowL r rows cols T v m n i j) (by omega) (by rw [hs]; simp [rowL]) (fun j x nx _ hj hx hnx=>?_) (fun x nx hx=>?_)
    · have hg:gridP (m:Int) (n:Int) (i:Int) (j:Int):=⟨h2,by omega,by omega⟩
      refine ifP_dec (fun _=>ref18_Cut_ok h (ref18_Piece_ok hv (blk_pull h hT h1 hv hvv h3 hg ?_))) (fun h=>by omega)
      have hb:=sumsS_prop r (sizS cols n j).toNat [] true (fun a=>lkI (rowI (Tb rows cols T m n i j) a)) (lkI (pieceS v n j).Items) (sizS rows m i).toNat
      have hbe:blkB r rows cols T v m n i j=sumsS r (sizS rows m i).toNat (sizS cols n j).toNat [] true (fun a=>lkI (rowI (Tb rows cols T m n i j) a)) (lkI (pieceS v n j).Items):=rfl
      rw [←hbe] at hb
      have hLe:blkL r rows cols T v m n i j=(blkB r rows cols T v m n i j).map (shS (lowS rows m i)):=rfl
      generalize blkB r rows cols T v m n i j=l at hb hLe ⊢
      have hsz:=siz_n (n:=rows) (k:=m) (i:=i) h.r0
      have hlo:=low_le rows m i
      dsimp only
      refine map_loop (xs:=l) (f:=shS (lowS rows m i)) (by omega) (fun k x' ny hk hx' hny=>?_) (fun ny x' hx'=>?_)
      · have hat:=hb.2.2.2.1 _ (List.getElem_mem hk)
        refine ifP_dec (fun _=>idxP_nat hk (idxP_nat hk (ref17_Low_ok ?_))) (fun h=>by omega)
        have hRw:(builtS rows cols T).Rows=rows:=rfl
        rw [hRw]
        rw [w64_id (x:=(l[k]).At+_) (by omega) (by omega)]
        exact appP_intro (by simp; omega) hny
      · subst hx'
        refine ifP_dec (fun h=>by omega) (fun _=>appP_intro (by rw [hx,List.length_append,hli]; simp [rowL]; omega) (hnx _ ?_))
        rw [hx,←hLe]
        unfold rowL
        rw [List.range_succ,List.map_append,List.append_assoc]; rfl
    · refine ifP_dec (fun h=>by omega) (fun _=>hn _ ?_)
      rw [hx]
      unfold LL
      rw [List.range_succ,List.flatMap_append,List.flatMap_singleton]
  · refine ifP_dec (fun h=>by omega) (fun _=>?_)
    subst hs
    refine ref14_Merge_ok (by rw [hlen]; omega) (fun l hl=>?_) (fun l hl=>?_) hQ
    · obtain ⟨i,j,_,_,rfl⟩:=LL_mem hl
      have:=(blk_prop r rows cols T v m n i j).2.1
      have hsz:=siz_n (n:=rows) (k:=m) (i:=i) h.r0
      omega
    · obtain ⟨i,j,_,_,rfl⟩:=LL_mem hl
      exact (blk_prop r rows cols T v m n i j).2.2.1
def MapB (f:Nat→Nat→List Sum) (p q:Nat) (m:List ((Int×Int)×List Sum)) (J I:Nat):Prop:=∀ a b:Nat,a<p→b<q→(mget ((a:Int),(b:Int)) m).getD []=if b<J∨(b=J∧a<I) then f a b else []
theorem map_put {f:Nat→Nat→List Sum} {p q J I:Nat} {m:List ((Int×Int)×List Sum)} (h:MapB f p q m J I):MapB f p q (mput ((I:Int),(J:Int)) (f I J) m) J (I+1):=by
  intro a b ha hb
  by_cases e:a=I∧b=J
  · obtain ⟨rfl,rfl⟩:=e
    rw [mget_mput_same,if_pos (.inr ⟨rfl,by omega⟩)]; rfl
  · have hne:((a:Int),(b:Int))≠((I:Int),(J:Int)):=fun h=>by
      have h1:=congrArg Prod.fst h; have h2:=congrArg Prod.snd h
      simp only at h1 h2
      exact e ⟨by omega,by omega⟩
    rw [mget_mput_other hne,h a b ha hb]
    by_cases hc:b<J∨(b=J∧a<I)
    · rw [if_pos hc,if_pos (by omega)]
    · rw [if_neg hc,if_neg (by omega)]
theorem map_next {f:Nat→Nat→List Sum} {p q J:Nat} {m:List ((Int×Int)×List Sum)} (h:MapB f p q m J p):MapB f p q m (J+1) 0:=by
  intro a b ha hb
  rw [h a b ha hb]
  by_cases hc:b<J∨(b=J∧a<p)
  · rw [if_pos hc,if_pos (by omega)]
  · rw [if_neg hc,if_neg (by omega)]
theorem map_skip {f:Nat→Nat→List Sum} {p q J:Nat} {m:List ((Int×Int)×List Sum)} (h:MapB f p q m J 0) (hf:∀ a,a<p→f a J=[]):MapB f p q m (J+1) 0:=by
  intro a b ha hb
  rw [h a b ha hb]
  by_cases hc:b<J
  · rw [if_pos (.inl hc),if_pos (by omega)]
  · rw [if_neg (by omega)]
    by_cases e:b=J
    · subst e; rw [if_pos (by omega),hf a ha]
    · rw [if_neg (by omega)]
theorem block_Times_ok {r rows cols:Int} {T:List Triple} {v:Vec} {p q:Int} {Q:List Sum×Int→Prop} (h:Canon rows cols T) (hT:∀ t∈T,inI t.Val) (hv:VecP v) (hvv:∀ x∈v.Items,inI x.Val) (hQ:Q (timesB r rows cols T v p q)):block_Times r (builtS rows cols T) v p q Q:=by
  unfold block_Times joinP
  unfold timesB at hQ
  refine right_ok h.sml ?_
  rw [decide_eq_true h.right]
  refine ifP_neg rfl ?_
  refine spvec_Right_ok (by have:=hv.len; omega) ?_
  rw [decide_eq_true hv]
  refine ifP_neg rfl ?_
  show ring_Is r _
  refine ring_Is_ok (ifP_not (fun h1=>by rwa [if_pos (of_decide_eq_false h1)] at hQ) (fun h1=>?_))
  have h1:=of_decide_eq_true h1
  rw [if_neg (fun h=>h h1)] at hQ
  refine block_side_ok (ifP_not (fun h2=>ifP_pos rfl ?_) (fun h2=>block_side_ok (ifP_not (fun h3=>?_) (fun h3=>?_))))
  · rwa [if_pos (fun h=>of_decide_eq_false h2 h.1)] at hQ
  · rwa [if_pos (fun h=>of_decide_eq_false h3 h.2)] at hQ
  have h2:sideP p∧sideP q:=⟨of_decide_eq_true h2,of_decide_eq_true h3⟩
  rw [if_neg (fun h=>h h2)] at hQ
  refine ifP_ne (fun h4=>by rwa [if_pos (show v.N≠cols from h4)] at hQ) (fun h4=>?_)
  have hN:v.N=cols:=h4
  rw [if_neg (fun h=>h hN)] at hQ
  have hp:=h2.1; have hq:=h2.2
  unfold sideP at hp hq
  obtain ⟨m,rfl⟩:∃ n:Nat,p=n:=⟨p.toNat,by omega⟩
  obtain ⟨n,rfl⟩:∃ n:Nat,q=n:=⟨q.toNat,by omega⟩
  rw [Int.toNat_natCast,Int.toNat_natCast] at hQ
  have hmn:m*n≤8*n:=Nat.mul_le_mul_right _ (by omega)
  show block_blocks_03e r (builtS rows cols T) v m n _ _
  unfold block_blocks_03e
  refine range_intro (s0:=([]:List ((Int×Int)×List Sum))) (fun (s:List ((Int×Int)×List Sum)) j=>(s,j)) 0 n (by omega) (fun j s=>MapB (fun a b=>blkL r rows cols T v m n a b) m n s j 0) (by omega) (fun a b _ _=>by rw [if_neg (by omega)]; rfl) (fun j s next _ hj hs hn=>?_) (fun s next hs=>?_)
  · refine ifP_dec (fun _=>block_Piece_ok hv (ifP_eq (fun he=>?_) (fun he=>?_))) (fun h=>by omega)
    · have hnil:(pieceS v n j).Items=[]:=List.eq_nil_of_length_eq_zero (by omega)
      exact hn s (map_skip hs fun a _=>blk_empty hnil)
    · refine range_intro (s0:=s) (fun (s:List ((Int×Int)×List Sum)) i=>(s,i)) 0 m (by omega) (fun i s=>MapB (fun a b=>blkL r rows cols T v m n a b) m n s j i) (by omega) hs (fun i s nx _ hi hs hnx=>?_) (fun s nx hs=>?_)
      · have hg:gridP (m:Int) (n:Int) (i:Int) (j:Int):=⟨h2,by omega,by omega⟩
        refine ifP_dec (fun _=>block_Cut_ok h (blk_push h hT h1 hv hvv hN hg (ifP_ne (fun h=>absurd rfl h) (fun _=>?_)))) (fun h=>by omega)
        have hb:=sumsS_prop r (sizS cols n j).toNat [] true (fun a=>lkI (rowI (Tb rows cols T m n i j) a)) (lkI (pieceS v n j).Items) (sizS rows m i).toNat
        have hbe:blkB r rows cols T v m n i j=sumsS r (sizS rows m i).toNat (sizS cols n j).toNat [] true (fun a=>lkI (rowI (Tb rows cols T m n i j) a)) (lkI (pieceS v n j).Items):=rfl
        rw [←hbe] at hb
        have hLe:blkL r rows cols T v m n i j=(blkB r rows cols T v m n i j).map (shS (lowS rows m i)):=rfl
        have hput:=map_put hs
        rw [hLe] at hput
        generalize blkB r rows cols T v m n i j=l at hb hput ⊢
        have hsz:=siz_n (n:=rows) (k:=m) (i:=i) h.r0
        have:=h.r1
        have hlo:=low_le rows m i
        dsimp only
        refine set_loop (g:=shS (lowS rows m i)) (by omega) (fun k x ny hk hsl hget hny=>?_) (fun ny x hx=>?_)
        · have hat:=hb.2.2.2.1 _ (List.getElem_mem hk)
          refine ifP_dec (fun _=>idxP_nat (i:=k) (by show k<x.length; omega) (part_Low_ok (idxP_nat (i:=k) (by show k<x.length; omega) ?_))) (fun h=>by omega)
          dsimp only
          rw [hget]
          have hRw:(builtS rows cols T).Rows=rows:=rfl
          rw [hRw,w64_id (x:=(l[k]).At+_) (by omega) (by omega)]
          exact hny
        · subst hx
          exact ifP_dec (fun h=>by omega) (fun _=>hnx _ hput)
      · exact ifP_dec (fun h=>by omega) (fun _=>hn s (map_next hs))
  · refine ifP_dec (fun h=>by omega) (fun _=>ifP_ne (fun h=>absurd rfl h) (fun _=>?_))
    have hlen:=LL_len r rows cols T v m n n
    refine range_intro (s0:=([]:List (List Sum))) (fun (x:List (List Sum)) i=>(x,i)) 0 m (by omega) (fun i x=>x=LL r rows cols T v m n i n) (by omega) (by simp [LL]) (fun i x nx _ hi hx hnx=>?_) (fun x nx hx=>?_)
    · have hli:=hlen i
      have hin:i*n≤m*n:=Nat.mul_le_mul_right _ (by omega)
      refine ifP_dec (fun _=>?_) (fun h=>by omega)
      refine range_intro (s0:=x) (fun (y:List (List Sum)) j=>(y,j)) 0 n (by omega) (fun j y=>y=LL r rows cols T v m n i n++rowL r rows cols T v m n i j) (by omega) (by rw [hx]; simp [rowL]) (fun j y ny _ hj hy hny=>?_) (fun y ny hy=>?_)
      · refine ifP_dec (fun _=>lkP_intro ?_) (fun h=>by omega)
        have hget:=hs i j hi hj
        rw [if_pos (.inl hj)] at hget
        simp only at hget ⊢
        rw [hget]
        refine appP_intro (by rw [hy,List.length_append,hli]; simp [rowL]; omega) (hny _ ?_)
        rw [hy]
        unfold rowL
        rw [List.range_succ,List.map_append,List.append_assoc]; rfl
      · refine ifP_dec (fun h=>by omega) (fun _=>hnx _ ?_)
        rw [hy]
        unfold LL
        rw [List.range_succ,List.flatMap_append,List.flatMap_singleton]
    · refine ifP_dec (fun h=>by omega) (fun _=>?_)
      subst hx
      have hsz:∀ l∈LL r rows cols T v m n m n,l.length≤4096:=fun l hl=>by
        obtain ⟨i,j,_,_,rfl⟩:=LL_mem hl
        have:=(blk_prop r rows cols T v m n i j).2.1
        have hsz:=siz_le rows m i
        omega
      have ht:=total_le hsz
      refine push_merge_ok (by rw [hlen]; omega) (fun l hl=>by have:=hsz l hl; omega) (by rw [hlen] at ht; omega) (fun l hl=>?_) hQ
      obtain ⟨i,j,_,_,rfl⟩:=LL_mem hl
      exact (blk_prop r rows cols T v m n i j).2.2.1
theorem rowB_look {rows cols:Int} {T:List Triple} (h:Canon rows cols T) {i j a:Int} (hi:0≤i):lkI (rowI T i) j=some a↔(⟨i,j,a⟩:Triple)∈T:=by
  have hinc:IncI ((segS T i.toNat).map itS):=by
    unfold IncI segS
    rw [List.pairwise_map]
    refine List.Pairwise.imp_of_mem ?_ (List.Pairwise.filter _ h.srt)
    intro a b ha hb hab
    have h1:=of_decide_eq_true (List.mem_filter.1 ha).2
    have h2:=of_decide_eq_true (List.mem_filter.1 hb).2
    unfold ltK key at hab
    simp only [itS]
    simp only at hab
    omega
  unfold rowI
  rw [lkI_iff hinc,List.mem_map]
  unfold segS
  constructor
  · rintro ⟨t,ht,he⟩
    obtain ⟨h1,h2⟩:=List.mem_filter.1 ht
    have h3:=of_decide_eq_true h2
    unfold itS at he
    obtain ⟨tr,tc,tv⟩:=t
    simp only [Item.mk.injEq] at he h3
    obtain ⟨rfl,rfl⟩:=he
    rw [show i=tr by omega]
    exact h1
  · intro ht
    exact ⟨_,List.mem_filter.2 ⟨ht,by simp; omega⟩,rfl⟩
theorem row_steps {r rows cols:Int} {T:List Triple} {v:Vec} {p q:Nat} (h:Canon rows cols T) (hv:VecP v) (hn:v.N=cols) (hp:sideP p) (hq:sideP q) {i:Nat} (hi:i<p) {x:Int} (h0:lowS rows p i≤x) (h1:x<lowS rows p ((i:Int)+1)) :
    ∀ n:Nat,n≤q→(rowL r rows cols T v p q i n).foldl (fun acc l=>cmb r acc (lk l x)) none=rowW r (lowS cols q n).toNat (lkI (rowI T x)) (lkI v.Items)
  | 0,_=>by rw [Int.natCast_zero,low_zero]; rfl
  | n+1,hnq=>by
    have ih:=row_steps (r:=r) h hv hn hp hq hi h0 h1 n (by omega)
    have hl0:=low_le rows p i
    have e:rowL r rows cols T v p q i (n+1)=rowL r rows cols T v p q i n++[blkL r rows cols T v p q i n]:=by unfold rowL; rw [List.range_succ,List.map_append]; rfl
    rw [e,List.foldl_append,ih,List.foldl_cons,List.foldl_nil]
    have hg:gridP (p:Int) (q:Int) (i:Int) (n:Int):=⟨⟨hp,hq⟩,by omega,by omega⟩
    obtain ⟨_,hc⟩:=cutG_canon h hg
    have hsr:sizS rows p i=lowS rows p ((i:Int)+1) - lowS rows p i:=by unfold sizS; rw [if_pos (by omega)]
    have hsc:sizS cols q n=lowS cols q ((n:Int)+1) - lowS cols q n:=by unfold sizS; rw [if_pos (by omega)]
    have hlc:=low_le cols q n; have hmono:=low_mono (n:=cols) (k:=q) (show (n:Int)≤(n:Int)+1 by omega)
    rw [(blk_prop r rows cols T v p q i n).2.2.2,if_pos (by omega)]
    have hsum:(lowS cols q ((n+1:Nat):Int)).toNat=(lowS cols q n).toNat+(sizS cols q n).toNat:=by
      rw [Int.natCast_add,Int.natCast_one]; omega
    rw [hsum,rowW_add]
    congr 1
    have hpc:=piece_is hv hq (j:=n) (by omega)
    rw [hn] at hpc
    refine rowW_congr (fun j hj=>?_) (fun j hj=>?_)
    · refine opt_ext fun a=>?_
      have e1:(Tb rows cols T p q i n)=cutT (lowS rows p i) (lowS rows p ((i:Int)+1)) (lowS cols q n) (lowS cols q ((n:Int)+1)) T:=rfl
      rw [e1,rowB_look hc (by omega),rowB_look h (by omega),cut_mem]
      simp only
      rw [show x - lowS rows p i+lowS rows p i=x by omega,Int.toNat_of_nonneg hlc.1]
      exact ⟨fun hh=>hh.1,fun hh=>⟨hh,by omega,by omega⟩⟩
    · rw [hpc.2.2.1 j (by omega) (by omega),Int.toNat_of_nonneg hlc.1]
theorem fold_keep {r:Int} {x:Int}:∀ {L:List (List Sum)} {acc:Option Wide},(∀ l∈L,lk l x=none)→L.foldl (fun acc l=>cmb r acc (lk l x)) acc=acc
  | [],_,_=>rfl
  | l :: L,acc,h=>by
    rw [List.foldl_cons,h l List.mem_cons_self,cmb_none]
    exact fold_keep fun m hm=>h m (List.mem_cons_of_mem _ hm)
theorem strips_steps {r rows cols:Int} {T:List Triple} {v:Vec} {p q:Nat} (h:Canon rows cols T) (hv:VecP v) (hn:v.N=cols) (hp:sideP p) (hq:sideP q) (x:Int) :
    ∀ m:Nat,m≤p→(LL r rows cols T v p q m q).foldl (fun acc l=>cmb r acc (lk l x)) none=if 0≤x∧x<lowS rows p m then rowW r cols.toNat (lkI (rowI T x)) (lkI v.Items) else none
  | 0,_=>by
    rw [Int.natCast_zero,low_zero,if_neg (by omega)]; simp [LL]
  | m+1,hm=>by
    have ih:=strips_steps (r:=r) h hv hn hp hq x m (by omega)
    have e:LL r rows cols T v p q (m+1) q=LL r rows cols T v p q m q++rowL r rows cols T v p q m q:=by unfold LL; rw [List.range_succ,List.flatMap_append,List.flatMap_singleton]
    have hmono:=low_mono (n:=rows) (k:=p) (show (m:Int)≤(m:Int)+1 by omega)
    have hl0:=low_le rows p m
    rw [e,List.foldl_append,ih,Int.natCast_add,Int.natCast_one]
    have hsr:sizS rows p m=lowS rows p ((m:Int)+1) - lowS rows p m:=by unfold sizS; rw [if_pos (by omega)]
    by_cases h1:lowS rows p m≤x∧x<lowS rows p ((m:Int)+1)
    · rw [if_neg (by omega),if_pos (by omega),row_steps h hv hn hp hq (by omega) h1.1 h1.2 q (Nat.le_refl _)]
      have hc:mayP cols q:=⟨⟨h.c0,h.c1⟩,hq⟩
      rw [low_top hc]
    · rw [fold_keep]
      · by_cases h2:0≤x∧x<lowS rows p m
        · rw [if_pos h2,if_pos (by omega)]
        · rw [if_neg h2,if_neg (by omega)]
      · intro l hl
        unfold rowL at hl
        obtain ⟨j,_,rfl⟩:=List.mem_map.1 hl
        rw [(blk_prop r rows cols T v p q m j).2.2.2,if_neg (by omega)]
theorem times_whole {r rows cols:Int} {T:List Triple} {v:Vec} {p q:Nat} (hr:1≤r∧r≤5) (h:Canon rows cols T) (hv:VecP v) (hn:v.N=cols) (hp:sideP p) (hq:sideP q) :
    mergeP r (LL r rows cols T v p q p q)=(sumsS r rows.toNat cols.toNat [] true (fun i=>lkI (rowI T i)) (lkI v.Items),0):=by
  have hrise:∀ l∈LL r rows cols T v p q p q,Rise l:=fun l hl=>by
    obtain ⟨i,j,_,_,rfl⟩:=LL_mem hl
    exact (blk_prop r rows cols T v p q i j).1
  have hm:=merge_prop r _ hrise _ (Nat.le_refl _)
  rw [List.take_length] at hm
  have hs:=sumsS_prop r cols.toNat [] true (fun i=>lkI (rowI T i)) (lkI v.Items) rows.toNat
  unfold mergeP
  rw [if_neg (fun h=>h hr),if_neg (fun ⟨l,hl,hn⟩=>hn (hrise l hl))]
  refine congrArg (fun z=>(z,(0:Int))) (rise_ext hm.1 hs.1 fun x=>?_)
  rw [hm.2.2.2,hs.2.2.2.2,foldR_list r x _ _ (Nat.le_refl _),List.take_length,strips_steps h hv hn hp hq x p (Nat.le_refl _)]
  have hc:mayP rows p:=⟨⟨h.r0,h.r1⟩,hp⟩
  have hr0:=h.r0
  rw [low_top hc]
  have ha:askF [] true x=true:=by unfold askF; rw [hasF_nil]; rfl
  by_cases hx:0≤x∧x<rows
  · rw [if_pos hx,if_pos ⟨hx.1,by omega,ha⟩]
  · rw [if_neg hx,if_neg (by omega)]
def M18:List Triple:=[⟨4,1,7⟩]
def V18:Vec:=⟨5,[⟨3,9⟩]⟩
def X18:Vec:=⟨5,[⟨1,3⟩]⟩
theorem M18_canon:Canon 5 5 M18:=⟨by decide,by decide,by decide,by decide,by decide,by unfold Srt; decide,by decide⟩
theorem V18_ok:VecP V18:=by decide
theorem X18_ok:VecP X18:=by decide
theorem live18_ok {Q:Bool→Prop} (hQ:Q true):law18_live Q:=by
  unfold law18_live
  refine ref_Of_ok (by decide) (by unfold inI; decide) ?_
  rw [show ofS 1 5 5 ([({ Row:=4,Col:=1,Val:=7 }:Triple)])=(builtS 5 5 M18,0) from of_self (r:=1) M18_canon (by unfold inI; decide) (by omega)]
  have hT:∀ t∈M18,inI t.Val:=by unfold inI; decide
  refine block_Cut_ok M18_canon (block_Piece_ok (v:=V18) V18_ok ?_)
  have e1:pieceS V18 2 1=⟨3,[⟨1,9⟩]⟩:=by decide +kernel
  have e0:pieceS V18 2 0=⟨2,[]⟩:=by decide +kernel
  rw [e1]
  refine block_Slice_ok (by decide) (block_Piece_ok (v:=V18) V18_ok ?_)
  rw [e0]
  refine block_Glue_ok (by decide) (by decide) ?_
  have eg:glueB 5 2 [⟨2,[]⟩,⟨3,[⟨1,9⟩]⟩]=(V18,0):=by
    unfold glueB gluedS
    rw [if_neg (fun h=>h ⟨by omega,by unfold sideP; omega⟩),if_neg (by simp),if_pos]
    · decide +kernel
    · intro i hi
      simp only [List.length_cons,List.length_nil] at hi
      rcases Nat.lt_or_ge i 1 with h | h
      · obtain rfl:i=0:=by omega
        exact ⟨show VecP ⟨2,[]⟩ by decide,show (2:Int)=sizS 5 2 0 by decide +kernel⟩
      · obtain rfl:i=1:=by omega
        exact ⟨show VecP ⟨3,[⟨1,9⟩]⟩ by decide,show (3:Int)=sizS 5 2 1 by decide +kernel⟩
  rw [eg]
  refine block_Join_ok (by decide) (by simp) (by simp) ?_
  have ej:joinS 5 5 2 2 []=(zR,4):=by
    unfold joinS
    rw [if_neg (fun h=>h ⟨by omega,by unfold sideP; omega,by unfold sideP; omega⟩),if_pos (by simp)]
  rw [ej]
  refine block_Fit_ok (by decide) (by simp) ?_
  have ef:fitB 5 2 3 0 []=(zV,4):=by
    unfold fitB
    rw [if_neg (fun h=>h ⟨by omega,⟨⟨by unfold sideP; omega,by unfold sideP; omega⟩,by omega,by omega⟩⟩),if_pos (by simp)]
  rw [ef]
  refine block_Times_ok (v:=X18) M18_canon hT X18_ok (by unfold inI; decide) ?_
  have et:timesB 4 5 5 M18 X18 2 3=([⟨4,⟨0,3⟩⟩],0):=by
    unfold timesB
    rw [if_neg (by omega),if_neg (fun h=>h ⟨by unfold sideP; omega,by unfold sideP; omega⟩),if_neg (fun h=>h rfl)]
    have:=times_whole (r:=4) (p:=2) (q:=3) (by omega) M18_canon X18_ok rfl (by unfold sideP; omega) (by unfold sideP; omega)
    refine this.trans ?_
    decide +kernel
  rw [et]
  have ec:cutG 5 5 M18 2 2 1 0=builtS 3 2 [⟨2,1,7⟩]:=by decide +kernel
  have es:sliceS ⟨3,[⟨1,9⟩]⟩ 5 2 3 1 2=⟨2,[⟨0,9⟩]⟩:=by decide +kernel
  rw [ec,es]
  exact ifP_pos rfl (ifP_pos rfl (ifP_pos rfl (ifP_pos rfl (ifP_pos rfl (ifP_pos rfl (ifP_pos rfl (ref09_Same_ok (by decide) (ifP_pos rfl (ifP_pos rfl (ifP_pos rfl (ifP_pos rfl (ifP_pos rfl (idxP_intro (by decide) rfl hQ)))))))))))))
theorem timesB_len {r rows cols:Int} {T:List Triple} {v:Vec} {p q:Int} (h:Canon rows cols T) (hv:VecP v):(timesB r rows cols T v p q).1.length≤4096∧((timesB r rows cols T v p q).2=0→(1≤r∧r≤5)∧v.N=cols∧(timesB r rows cols T v p q).1=sumsS r rows.toNat cols.toNat [] true (fun i=>lkI (rowI T i)) (lkI v.Items)):=by
  unfold timesB
  by_cases h1:1≤r∧r≤5
  · rw [if_neg (fun h=>h h1)]
    by_cases h2:sideP p∧sideP q
    · rw [if_neg (fun h=>h h2)]
      by_cases h3:v.N=cols
      · rw [if_neg (fun h=>h h3)]
        have hp:=h2.1; have hq:=h2.2
        unfold sideP at hp hq
        obtain ⟨m,rfl⟩:∃ n:Nat,p=n:=⟨p.toNat,by omega⟩
        obtain ⟨n,rfl⟩:∃ n:Nat,q=n:=⟨q.toNat,by omega⟩
        rw [Int.toNat_natCast,Int.toNat_natCast,times_whole h1 h hv h3 h2.1 h2.2]
        have hs:=(sumsS_prop r cols.toNat [] true (fun i=>lkI (rowI T i)) (lkI v.Items) rows.toNat).2.1
        have:=h.r0; have:=h.r1
        exact ⟨by simp only; omega,fun _=>⟨h1,h3,rfl⟩⟩
      · rw [if_pos h3]; exact ⟨by simp,fun h=>by cases h⟩
    · rw [if_pos h2]; exact ⟨by simp,fun h=>by cases h⟩
  · rw [if_pos h1]; exact ⟨by simp,fun h=>by cases h⟩
theorem BlockTimes_ok (a0:Law13_Task) (a1 a2:Int) (h0:okLaw13_Task a0):law18_BlockTimes a0 a1 a2 (fun r=>r=true):=by
  unfold law18_BlockTimes
  have hrb:=sizeS_b a0.Size.1
  refine task_mat_ok h0 fun M hM hMv=>task_vec_ok h0 h0.2.2.2.1.1 fun v hvn hv hvv=>block_Times_ok hM hMv hv hvv (ref18_Times_ok hM hMv (by omega) hv hvv (live18_ok (ifP_neg rfl (ifP_ne (fun h=>absurd rfl h) (fun _=>?_)))))
  have ht:=timesB_len (r:=a0.Ring) (p:=a1) (q:=a2) hM hv
  have hct:=turn_canon hM
  refine eqSum_ok (by omega) (ifP_not (fun h=>by simp at h) (fun _=>ref_dcsc_of_ok hM.sml (sure_built hM) hM (push_Sums_ok hct.smlC (sureC_col hct) hct (turnT_vals hM hMv) (by have:=hv.len; omega) (by rw [sureV_id hv]; exact hvv) nil_okF (ifP_ne (fun _=>rfl) (fun hz=>?_)))))
  obtain ⟨hr,hn,he⟩:=ht.2 hz
  have e:sumsP a0.Ring (sizeS a0.Size.1) (sizeS a0.Size.2) (turnT (sizeS a0.Size.2) M) (sureV v) [] true=((timesB a0.Ring (sizeS a0.Size.1) (sizeS a0.Size.2) M v a1 a2).1,0):=by
    rw [sureV_id hv,←sums_turn hct,turn_turn hM,he]
    unfold sumsR
    rw [if_neg (fun h=>h hr),if_neg (fun h=>h hn)]
  rw [e]
  exact ifP_pos rfl (eqSum_ok (by omega) (by simp))
end Go.Proofs.YtpackolbhcmomaaGreat
