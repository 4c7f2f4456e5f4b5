import Derived.Test.YtpackolbhcmomaaGreatOK
import Derived.Test.YtpackolbhcmomaaGreatBlkD
namespace Go.Proofs.YtpackolbhcmomaaGreat
open Go Go.Fw
set_option linter.unusedVariables false
set_option linter.unusedSimpArgs false
def shS (a:Int) (s:Sum):Sum:=⟨s.At+a,s.Val⟩
def Tb (rows cols:Int) (T:List Triple) (p q i j:Int):List Triple:=cutT (lowS rows p i) (lowS rows p (i+1)) (lowS cols q j) (lowS cols q (j+1)) T
def blkB (r rows cols:Int) (T:List Triple) (v:Vec) (p q i j:Int):List Sum:=sumsS r (sizS rows p i).toNat (sizS cols q j).toNat [] true (fun a=>lkI (rowI (Tb rows cols T p q i j) a)) (lkI (pieceS v q j).Items)
def blkL (r rows cols:Int) (T:List Triple) (v:Vec) (p q i j:Int):List Sum:=(blkB r rows cols T v p q i j).map (shS (lowS rows p i))
def rowL (r rows cols:Int) (T:List Triple) (v:Vec) (p q:Int) (i:Nat) (n:Nat):List (List Sum):=(List.range n).map fun j:Nat=>blkL r rows cols T v p q i j
def LL (r rows cols:Int) (T:List Triple) (v:Vec) (p q:Int) (m n:Nat):List (List Sum):=(List.range m).flatMap fun i:Nat=>rowL r rows cols T v p q i n
open Classical in
noncomputable def timesB (r rows cols:Int) (T:List Triple) (v:Vec) (p q:Int):List Sum×Int:=
  if ¬(1≤r∧r≤5) then ([],8) else if ¬(sideP p∧sideP q) then ([],3) else if v.N≠cols then ([],4) else mergeP r (LL r rows cols T v p q p.toNat q.toNat)
theorem piece_is {v:Vec} (hv:VecP v) {q j:Int} (hq:sideP q) (hj:0≤j∧j<q):VecP (pieceS v q j)∧(pieceS v q j).N=sizS v.N q j∧(∀ k,0≤k→k<sizS v.N q j→lkI (pieceS v q j).Items k=lkI v.Items (k+lowS v.N q j))∧((∀ x∈v.Items,inI x.Val)→∀ x∈(pieceS v q j).Items,inI x.Val):=by
  have h1:=low_b (n:=v.N) (k:=q) (i:=j); have h2:=low_b (n:=v.N) (k:=q) (i:=j+1)
  have h3:=low_mono (n:=v.N) (k:=q) (show j≤j+1 by omega)
  have:=part_prop hv h1.1 h3 (h2.2 hv.n0)
  unfold pieceS sizS
  rw [if_pos ⟨hq,hj⟩,if_pos hj]
  exact this
theorem siz_n {n k i:Int} (hn:0≤n):0≤sizS n k i∧sizS n k i≤n:=by
  unfold sizS
  have h1:=low_b (n:=n) (k:=k) (i:=i); have h2:=low_b (n:=n) (k:=k) (i:=i+1); have h3:=low_mono (n:=n) (k:=k) (show i≤i+1 by omega)
  have:=h2.2 hn
  split <;> omega
theorem Tb_vals {rows cols:Int} {T:List Triple} {p q i j:Int} (h:∀ t∈T,inI t.Val):∀ t∈Tb rows cols T p q i j,inI t.Val:=fun t ht=>by
  have:=h _ ((cut_mem t).1 ht).1
  exact this
theorem rise_sh {a:Int} {l:List Sum} (h:Rise l):Rise (l.map (shS a)):=by
  unfold Rise at *
  rw [List.pairwise_map]
  exact h.imp fun {x y} hxy=>by unfold shS; simp only; omega
theorem lk_sh {a:Int}:∀ (l:List Sum) (i:Int),lk (l.map (shS a)) i=lk l (i - a)
  | [],_=>rfl
  | s :: l,i=>by
    rw [List.map_cons,lk_cons,lk_cons,lk_sh l i]
    unfold shS
    simp only
    by_cases e:i=s.At+a
    · rw [if_pos e,if_pos (by omega)]
    · rw [if_neg e,if_neg (by omega)]
theorem hasF_nil {x:Int}:hasF [] x=false:=by
  by_cases hx:x<0
  · exact hasF_neg hx
  · exact hasF_over (by simp; omega)
theorem blk_prop (r rows cols:Int) (T:List Triple) (v:Vec) (p q i j:Int):Rise (blkL r rows cols T v p q i j)∧(blkL r rows cols T v p q i j).length≤(sizS rows p i).toNat∧okS (blkL r rows cols T v p q i j) ∧
    ∀ x:Int,lk (blkL r rows cols T v p q i j) x=if 0≤x - lowS rows p i∧x - lowS rows p i<((sizS rows p i).toNat:Nat) then rowW r (sizS cols q j).toNat (lkI (rowI (Tb rows cols T p q i j) (x - lowS rows p i))) (lkI (pieceS v q j).Items) else none:=by
  have h:=sumsS_prop r (sizS cols q j).toNat [] true (fun a=>lkI (rowI (Tb rows cols T p q i j) a)) (lkI (pieceS v q j).Items) (sizS rows p i).toNat
  unfold blkL blkB
  refine ⟨rise_sh h.1,by rw [List.length_map]; exact h.2.1,fun s hs=>?_,fun x=>?_⟩
  · obtain ⟨u,hu,rfl⟩:=List.mem_map.1 hs
    exact h.2.2.1 u hu
  · rw [lk_sh,h.2.2.2.2]
    have ha:askF [] true (x - lowS rows p i)=true:=by unfold askF; rw [hasF_nil]; rfl
    by_cases hc:0≤x - lowS rows p i∧x - lowS rows p i<((sizS rows p i).toNat:Nat)
    · rw [if_pos ⟨hc.1,hc.2,ha⟩,if_pos hc]
    · rw [if_neg (fun h'=>hc ⟨h'.1,h'.2.1⟩),if_neg hc]
theorem rowW_none (r:Int) (A:Int→Option Int):∀ n:Nat,rowW r n A (fun _=>none)=none
  | 0=>rfl
  | n+1=>by
    rw [rowW_succ,rowW_none r A n]
    unfold stepW
    cases A n <;> rfl
theorem blk_empty {r rows cols:Int} {T:List Triple} {v:Vec} {p q i j:Int} (h:(pieceS v q j).Items=[]):blkL r rows cols T v p q i j=[]:=by
  have hp:=blk_prop r rows cols T v p q i j
  refine rise_ext hp.1 .nil fun x=>?_
  rw [hp.2.2.2,h]
  have e:lkI []=fun _=>none:=rfl
  rw [e,rowW_none,lk_nil]
  split <;> rfl
theorem total_le {m:Nat}:∀ {L:List (List Sum)},(∀ l∈L,l.length≤m)→total L≤L.length*m
  | [],_=>by simp [total]
  | x :: L,h=>by
    have h1:=total_le fun l hl=>h l (List.mem_cons_of_mem _ hl)
    have h2:=h x List.mem_cons_self
    unfold total at h1 ⊢
    simp only [List.map_cons,List.foldr_cons,List.length_cons,Nat.succ_mul]
    omega
theorem LL_mem {r rows cols:Int} {T:List Triple} {v:Vec} {p q:Int} {m n:Nat} {l:List Sum} (h:l∈LL r rows cols T v p q m n):∃ i j:Nat,i<m∧j<n∧l=blkL r rows cols T v p q i j:=by
  unfold LL rowL at h
  obtain ⟨i,hi,hx⟩:=List.mem_flatMap.1 h
  obtain ⟨j,hj,rfl⟩:=List.mem_map.1 hx
  exact ⟨i,j,List.mem_range.1 hi,List.mem_range.1 hj,rfl⟩
theorem LL_len (r rows cols:Int) (T:List Triple) (v:Vec) (p q:Int) (n:Nat):∀ m:Nat,(LL r rows cols T v p q m n).length=m*n
  | 0=>by simp [LL]
  | m+1=>by
    have ih:=LL_len r rows cols T v p q n m
    unfold LL rowL at ih ⊢
    rw [List.range_succ,List.flatMap_append,List.length_append,ih,List.flatMap_singleton,List.length_map,List.length_range,Nat.succ_mul]
theorem blk_push {r rows cols:Int} {T:List Triple} {v:Vec} {p q i j:Int} {Q:List Sum×Int→Prop} (h:Canon rows cols T) (hT:∀ t∈T,inI t.Val) (hr:1≤r∧r≤5) (hv:VecP v) (hvv:∀ x∈v.Items,inI x.Val) (hn:v.N=cols) (hg:gridP p q i j)
    (hQ:Q (blkB r rows cols T v p q i j,0)):dcsc_Of (cutG rows cols T p q i j) fun c=>push_Sums r c (pieceS v q j) [] true Q:=by
  obtain ⟨e,hc⟩:=cutG_canon h hg
  have hp:=piece_is hv hg.1.2 hg.2.2
  rw [hn] at hp
  have hct:=turn_canon hc
  rw [e]
  refine dcsc_of_ok hc.sml (sure_built hc) (fun _=>rfl) (fun h'=>absurd hc.right h') hc (push_Sums_ok hct.smlC (sureC_col hct) hct (turnT_vals hc (Tb_vals hT)) (by have:=hp.1.len; omega) (by rw [sureV_id hp.1]; exact hp.2.2.2 hvv) nil_okF ?_)
  rw [sureV_id hp.1,←sums_turn hct,turn_turn hc]
  unfold sumsR
  rw [if_neg (fun h=>h hr),if_neg (fun h=>h hp.2.1)]
  exact hQ
def MapB (f:Nat→Nat→List Sum) (p q:Nat) (m:List ((Int×Int)×List Sum)) (J I:Nat):Prop:=∀ a b:Nat,a<p→b<q→(mget ((a:Int),(b:Int)) m).getD []=if b<J∨(b=J∧a<I) then f a b else []
theorem map_put {f:Nat→Nat→List Sum} {p q J I:Nat} {m:List ((Int×Int)×List Sum)} (h:MapB f p q m J I):MapB f p q (mput ((I:Int),(J:Int)) (f I J) m) J (I+1):=by
  intro a b ha hb
  by_cases e:a=I∧b=J
  · obtain ⟨rfl,rfl⟩:=e
    rw [mget_mput_same,if_pos (.inr ⟨rfl,by omega⟩)]; rfl
  · have hne:((a:Int),(b:Int))≠((I:Int),(J:Int)):=fun h=>by
      have h1:=congrArg Prod.fst h; have h2:=congrArg Prod.snd h
      simp only at h1 h2
      exact e ⟨by omega,by omega⟩
    rw [mget_mput_other hne,h a b ha hb]
    by_cases hc:b<J∨(b=J∧a<I)
    · rw [if_pos hc,if_pos (by omega)]
    · rw [if_neg hc,if_neg (by omega)]
theorem map_next {f:Nat→Nat→List Sum} {p q J:Nat} {m:List ((Int×Int)×List Sum)} (h:MapB f p q m J p):MapB f p q m (J+1) 0:=by
  intro a b ha hb
  rw [h a b ha hb]
  by_cases hc:b<J∨(b=J∧a<p)
  · rw [if_pos hc,if_pos (by omega)]
  · rw [if_neg hc,if_neg (by omega)]
theorem map_skip {f:Nat→Nat→List Sum} {p q J:Nat} {m:List ((Int×Int)×List Sum)} (h:MapB f p q m J 0) (hf:∀ a,a<p→f a J=[]):MapB f p q m (J+1) 0:=by
  intro a b ha hb
  rw [h a b ha hb]
  by_cases hc:b<J
  · rw [if_pos (.inl hc),if_pos (by omega)]
  · rw [if_neg (by omega)]
    by_cases e:b=J
    · subst e; rw [if_pos (by omega),hf a ha]
    · rw [if_neg (by omega)]
theorem block_Times_ok {r rows cols:Int} {T:List Triple} {v:Vec} {p q:Int} {Q:List Sum×Int→Prop} (h:Canon rows cols T) (hT:∀ t∈T,inI t.Val) (hv:VecP v) (hvv:∀ x∈v.Items,inI x.Val) (hQ:Q (timesB r rows cols T v p q)):block_Times r (builtS rows cols T) v p q Q:=by
  unfold block_Times joinP
  unfold timesB at hQ
  refine right_ok h.sml ?_
  rw [decide_eq_true h.right]
  refine ifP_neg rfl ?_
  refine spvec_Right_ok (by have:=hv.len; omega) ?_
  rw [decide_eq_true hv]
  refine ifP_neg rfl ?_
  show ring_Is r _
  refine ring_Is_ok (ifP_not (fun h1=>by rwa [if_pos (of_decide_eq_false h1)] at hQ) (fun h1=>?_))
  have h1:=of_decide_eq_true h1
  rw [if_neg (fun h=>h h1)] at hQ
  refine block_side_ok (ifP_not (fun h2=>ifP_pos rfl ?_) (fun h2=>block_side_ok (ifP_not (fun h3=>?_) (fun h3=>?_))))
  · rwa [if_pos (fun h=>of_decide_eq_false h2 h.1)] at hQ
  · rwa [if_pos (fun h=>of_decide_eq_false h3 h.2)] at hQ
  have h2:sideP p∧sideP q:=⟨of_decide_eq_true h2,of_decide_eq_true h3⟩
  rw [if_neg (fun h=>h h2)] at hQ
  refine ifP_ne (fun h4=>by rwa [if_pos (show v.N≠cols from h4)] at hQ) (fun h4=>?_)
  have hN:v.N=cols:=h4
  rw [if_neg (fun h=>h hN)] at hQ
  have hp:=h2.1; have hq:=h2.2
  unfold sideP at hp hq
  obtain ⟨m,rfl⟩:∃ n:Nat,p=n:=⟨p.toNat,by omega⟩
  obtain ⟨n,rfl⟩:∃ n:Nat,q=n:=⟨q.toNat,by omega⟩
  rw [Int.toNat_natCast,Int.toNat_natCast] at hQ
  have hmn:m*n≤8*n:=Nat.mul_le_mul_right _ (by omega)
  show block_blocks_03e r (builtS rows cols T) v m n _ _
  unfold block_blocks_03e
  refine range_intro (s0:=([]:List ((Int×Int)×List Sum))) (fun (s:List ((Int×Int)×List Sum)) j=>(s,j)) 0 n (by omega) (fun j s=>MapB (fun a b=>blkL r rows cols T v m n a b) m n s j 0) (by omega) (fun a b _ _=>by rw [if_neg (by omega)]; rfl) (fun j s next _ hj hs hn=>?_) (fun s next hs=>?_)
  · refine ifP_dec (fun _=>block_Piece_ok hv (ifP_eq (fun he=>?_) (fun he=>?_))) (fun h=>by omega)
    · have hnil:(pieceS v n j).Items=[]:=List.eq_nil_of_length_eq_zero (by omega)
      exact hn s (map_skip hs fun a _=>blk_empty hnil)
    · refine range_intro (s0:=s) (fun (s:List ((Int×Int)×List Sum)) i=>(s,i)) 0 m (by omega) (fun i s=>MapB (fun a b=>blkL r rows cols T v m n a b) m n s j i) (by omega) hs (fun i s nx _ hi hs hnx=>?_) (fun s nx hs=>?_)
      · have hg:gridP (m:Int) (n:Int) (i:Int) (j:Int):=⟨h2,by omega,by omega⟩
        refine ifP_dec (fun _=>block_Cut_ok h (blk_push h hT h1 hv hvv hN hg (ifP_ne (fun h=>absurd rfl h) (fun _=>?_)))) (fun h=>by omega)
        have hb:=sumsS_prop r (sizS cols n j).toNat [] true (fun a=>lkI (rowI (Tb rows cols T m n i j) a)) (lkI (pieceS v n j).Items) (sizS rows m i).toNat
        have hbe:blkB r rows cols T v m n i j=sumsS r (sizS rows m i).toNat (sizS cols n j).toNat [] true (fun a=>lkI (rowI (Tb rows cols T m n i j) a)) (lkI (pieceS v n j).Items):=rfl
        rw [←hbe] at hb
        have hLe:blkL r rows cols T v m n i j=(blkB r rows cols T v m n i j).map (shS (lowS rows m i)):=rfl
        have hput:=map_put hs
        rw [hLe] at hput
        generalize blkB r rows cols T v m n i j=l at hb hput ⊢
        have hsz:=siz_n (n:=rows) (k:=m) (i:=i) h.r0
        have:=h.r1
        have hlo:=low_le rows m i
        dsimp only
        refine set_loop (g:=shS (lowS rows m i)) (by omega) (fun k x ny hk hsl hget hny=>?_) (fun ny x hx=>?_)
        · have hat:=hb.2.2.2.1 _ (List.getElem_mem hk)
          refine ifP_dec (fun _=>idxP_nat (i:=k) (by show k<x.length; omega) (part_Low_ok (idxP_nat (i:=k) (by show k<x.length; omega) ?_))) (fun h=>by omega)
          dsimp only
          rw [hget]
          have hRw:(builtS rows cols T).Rows=rows:=rfl
          rw [hRw,w64_id (x:=(l[k]).At+_) (by omega) (by omega)]
          exact hny
        · subst hx
          exact ifP_dec (fun h=>by omega) (fun _=>hnx _ hput)
      · exact ifP_dec (fun h=>by omega) (fun _=>hn s (map_next hs))
  · refine ifP_dec (fun h=>by omega) (fun _=>ifP_ne (fun h=>absurd rfl h) (fun _=>?_))
    have hlen:=LL_len r rows cols T v m n n
    refine range_intro (s0:=([]:List (List Sum))) (fun (x:List (List Sum)) i=>(x,i)) 0 m (by omega) (fun i x=>x=LL r rows cols T v m n i n) (by omega) (by simp [LL]) (fun i x nx _ hi hx hnx=>?_) (fun x nx hx=>?_)
    · have hli:=hlen i
      have hin:i*n≤m*n:=Nat.mul_le_mul_right _ (by omega)
      refine ifP_dec (fun _=>?_) (fun h=>by omega)
      refine range_intro (s0:=x) (fun (y:List (List Sum)) j=>(y,j)) 0 n (by omega) (fun j y=>y=LL r rows cols T v m n i n++rowL r rows cols T v m n i j) (by omega) (by rw [hx]; simp [rowL]) (fun j y ny _ hj hy hny=>?_) (fun y ny hy=>?_)
      · refine ifP_dec (fun _=>lkP_intro ?_) (fun h=>by omega)
        have hget:=hs i j hi hj
        rw [if_pos (.inl hj)] at hget
        simp only at hget ⊢
        rw [hget]
        refine appP_intro (by rw [hy,List.length_append,hli]; simp [rowL]; omega) (hny _ ?_)
        rw [hy]
        unfold rowL
        rw [List.range_succ,List.map_append,List.append_assoc]; rfl
      · refine ifP_dec (fun h=>by omega) (fun _=>hnx _ ?_)
        rw [hy]
        unfold LL
        rw [List.range_succ,List.flatMap_append,List.flatMap_singleton]
    · refine ifP_dec (fun h=>by omega) (fun _=>?_)
      subst hx
      have hsz:∀ l∈LL r rows cols T v m n m n,l.length≤4096:=fun l hl=>by
        obtain ⟨i,j,_,_,rfl⟩:=LL_mem hl
        have:=(blk_prop r rows cols T v m n i j).2.1
        have hsz:=siz_le rows m i
        omega
      have ht:=total_le hsz
      refine push_merge_ok (by rw [hlen]; omega) (fun l hl=>by have:=hsz l hl; omega) (by rw [hlen] at ht; omega) (fun l hl=>?_) hQ
      obtain ⟨i,j,_,_,rfl⟩:=LL_mem hl
      exact (blk_prop r rows cols T v m n i j).2.2.1
theorem rowB_look {rows cols:Int} {T:List Triple} (h:Canon rows cols T) {i j a:Int} (hi:0≤i):lkI (rowI T i) j=some a↔(⟨i,j,a⟩:Triple)∈T:=by
  have hinc:IncI ((segS T i.toNat).map itS):=by
    unfold IncI segS
    rw [List.pairwise_map]
    refine List.Pairwise.imp_of_mem ?_ (List.Pairwise.filter _ h.srt)
    intro a b ha hb hab
    have h1:=of_decide_eq_true (List.mem_filter.1 ha).2
    have h2:=of_decide_eq_true (List.mem_filter.1 hb).2
    unfold ltK key at hab
    simp only [itS]
    simp only at hab
    omega
  unfold rowI
  rw [lkI_iff hinc,List.mem_map]
  unfold segS
  constructor
  · rintro ⟨t,ht,he⟩
    obtain ⟨h1,h2⟩:=List.mem_filter.1 ht
    have h3:=of_decide_eq_true h2
    unfold itS at he
    obtain ⟨tr,tc,tv⟩:=t
    simp only [Item.mk.injEq] at he h3
    obtain ⟨rfl,rfl⟩:=he
    rw [show i=tr by omega]
    exact h1
  · intro ht
    exact ⟨_,List.mem_filter.2 ⟨ht,by simp; omega⟩,rfl⟩
theorem row_steps {r rows cols:Int} {T:List Triple} {v:Vec} {p q:Nat} (h:Canon rows cols T) (hv:VecP v) (hn:v.N=cols) (hp:sideP p) (hq:sideP q) {i:Nat} (hi:i<p) {x:Int} (h0:lowS rows p i≤x) (h1:x<lowS rows p ((i:Int)+1)) :
    ∀ n:Nat,n≤q→(rowL r rows cols T v p q i n).foldl (fun acc l=>cmb r acc (lk l x)) none=rowW r (lowS cols q n).toNat (lkI (rowI T x)) (lkI v.Items)
  | 0,_=>by rw [Int.natCast_zero,low_zero]; rfl
  | n+1,hnq=>by
    have ih:=row_steps (r:=r) h hv hn hp hq hi h0 h1 n (by omega)
    have hl0:=low_le rows p i
    have e:rowL r rows cols T v p q i (n+1)=rowL r rows cols T v p q i n++[blkL r rows cols T v p q i n]:=by unfold rowL; rw [List.range_succ,List.map_append]; rfl
    rw [e,List.foldl_append,ih,List.foldl_cons,List.foldl_nil]
    have hg:gridP (p:Int) (q:Int) (i:Int) (n:Int):=⟨⟨hp,hq⟩,by omega,by omega⟩
    obtain ⟨_,hc⟩:=cutG_canon h hg
    have hsr:sizS rows p i=lowS rows p ((i:Int)+1) - lowS rows p i:=by unfold sizS; rw [if_pos (by omega)]
    have hsc:sizS cols q n=lowS cols q ((n:Int)+1) - lowS cols q n:=by unfold sizS; rw [if_pos (by omega)]
    have hlc:=low_le cols q n; have hmono:=low_mono (n:=cols) (k:=q) (show (n:Int)≤(n:Int)+1 by omega)
    rw [(blk_prop r rows cols T v p q i n).2.2.2,if_pos (by omega)]
    have hsum:(lowS cols q ((n+1:Nat):Int)).toNat=(lowS cols q n).toNat+(sizS cols q n).toNat:=by
      rw [Int.natCast_add,Int.natCast_one]; omega
    rw [hsum,rowW_add]
    congr 1
    have hpc:=piece_is hv hq (j:=n) (by omega)
    rw [hn] at hpc
    refine rowW_congr (fun j hj=>?_) (fun j hj=>?_)
    · refine opt_ext fun a=>?_
      have e1:(Tb rows cols T p q i n)=cutT (lowS rows p i) (lowS rows p ((i:Int)+1)) (lowS cols q n) (lowS cols q ((n:Int)+1)) T:=rfl
      rw [e1,rowB_look hc (by omega),rowB_look h (by omega),cut_mem]
      simp only
      rw [show x - lowS rows p i+lowS rows p i=x by omega,Int.toNat_of_nonneg hlc.1]
      exact ⟨fun hh=>hh.1,fun hh=>⟨hh,by omega,by omega⟩⟩
    · rw [hpc.2.2.1 j (by omega) (by omega),Int.toNat_of_nonneg hlc.1]
theorem fold_keep {r:Int} {x:Int}:∀ {L:List (List Sum)} {acc:Option Wide},(∀ l∈L,lk l x=none)→L.foldl (fun acc l=>cmb r acc (lk l x)) acc=acc
  | [],_,_=>rfl
  | l :: L,acc,h=>by
    rw [List.foldl_cons,h l List.mem_cons_self,cmb_none]
    exact fold_keep fun m hm=>h m (List.mem_cons_of_mem _ hm)
theorem strips_steps {r rows cols:Int} {T:List Triple} {v:Vec} {p q:Nat} (h:Canon rows cols T) (hv:VecP v) (hn:v.N=cols) (hp:sideP p) (hq:sideP q) (x:Int) :
    ∀ m:Nat,m≤p→(LL r rows cols T v p q m q).foldl (fun acc l=>cmb r acc (lk l x)) none=if 0≤x∧x<lowS rows p m then rowW r cols.toNat (lkI (rowI T x)) (lkI v.Items) else none
  | 0,_=>by
    rw [Int.natCast_zero,low_zero,if_neg (by omega)]; simp [LL]
  | m+1,hm=>by
    have ih:=strips_steps (r:=r) h hv hn hp hq x m (by omega)
    have e:LL r rows cols T v p q (m+1) q=LL r rows cols T v p q m q++rowL r rows cols T v p q m q:=by unfold LL; rw [List.range_succ,List.flatMap_append,List.flatMap_singleton]
    have hmono:=low_mono (n:=rows) (k:=p) (show (m:Int)≤(m:Int)+1 by omega)
    have hl0:=low_le rows p m
    rw [e,List.foldl_append,ih,Int.natCast_add,Int.natCast_one]
    have hsr:sizS rows p m=lowS rows p ((m:Int)+1) - lowS rows p m:=by unfold sizS; rw [if_pos (by omega)]
    by_cases h1:lowS rows p m≤x∧x<lowS rows p ((m:Int)+1)
    · rw [if_neg (by omega),if_pos (by omega),row_steps h hv hn hp hq (by omega) h1.1 h1.2 q (Nat.le_refl _)]
      have hc:mayP cols q:=⟨⟨h.c0,h.c1⟩,hq⟩
      rw [low_top hc]
    · rw [fold_keep]
      · by_cases h2:0≤x∧x<lowS rows p m
        · rw [if_pos h2,if_pos (by omega)]
        · rw [if_neg h2,if_neg (by omega)]
      · intro l hl
        unfold rowL at hl
        obtain ⟨j,_,rfl⟩:=List.mem_map.1 hl
        rw [(blk_prop r rows cols T v p q m j).2.2.2,if_neg (by omega)]
theorem times_whole {r rows cols:Int} {T:List Triple} {v:Vec} {p q:Nat} (hr:1≤r∧r≤5) (h:Canon rows cols T) (hv:VecP v) (hn:v.N=cols) (hp:sideP p) (hq:sideP q) :
    mergeP r (LL r rows cols T v p q p q)=(sumsS r rows.toNat cols.toNat [] true (fun i=>lkI (rowI T i)) (lkI v.Items),0):=by
  have hrise:∀ l∈LL r rows cols T v p q p q,Rise l:=fun l hl=>by
    obtain ⟨i,j,_,_,rfl⟩:=LL_mem hl
    exact (blk_prop r rows cols T v p q i j).1
  have hm:=merge_prop r _ hrise _ (Nat.le_refl _)
  rw [List.take_length] at hm
  have hs:=sumsS_prop r cols.toNat [] true (fun i=>lkI (rowI T i)) (lkI v.Items) rows.toNat
  unfold mergeP
  rw [if_neg (fun h=>h hr),if_neg (fun ⟨l,hl,hn⟩=>hn (hrise l hl))]
  refine congrArg (fun z=>(z,(0:Int))) (rise_ext hm.1 hs.1 fun x=>?_)
  rw [hm.2.2.2,hs.2.2.2.2,foldR_list r x _ _ (Nat.le_refl _),List.take_length,strips_steps h hv hn hp hq x p (Nat.le_refl _)]
  have hc:mayP rows p:=⟨⟨h.r0,h.r1⟩,hp⟩
  have hr0:=h.r0
  rw [low_top hc]
  have ha:askF [] true x=true:=by unfold askF; rw [hasF_nil]; rfl
  by_cases hx:0≤x∧x<rows
  · rw [if_pos hx,if_pos ⟨hx.1,by omega,ha⟩]
  · rw [if_neg hx,if_neg (by omega)]
def M18:List Triple:=[⟨4,1,7⟩]
def V18:Vec:=⟨5,[⟨3,9⟩]⟩
def X18:Vec:=⟨5,[⟨1,3⟩]⟩
theorem M18_canon:Canon 5 5 M18:=⟨by decide,by decide,by decide,by decide,by decide,by unfold Srt; decide,by decide⟩
theorem V18_ok:VecP V18:=by decide
theorem X18_ok:VecP X18:=by decide
theorem live18_ok {Q:Bool→Prop} (hQ:Q true):law18_live Q:=by
  unfold law18_live
  refine ref_Of_ok (by decide) (by unfold inI; decide) ?_
  rw [show ofS 1 5 5 ([({ Row:=4,Col:=1,Val:=7 }:Triple)])=(builtS 5 5 M18,0) from of_self (r:=1) M18_canon (by unfold inI; decide) (by omega)]
  have hT:∀ t∈M18,inI t.Val:=by unfold inI; decide
  refine block_Cut_ok M18_canon (block_Piece_ok (v:=V18) V18_ok ?_)
  have e1:pieceS V18 2 1=⟨3,[⟨1,9⟩]⟩:=by decide +kernel
  have e0:pieceS V18 2 0=⟨2,[]⟩:=by decide +kernel
  rw [e1]
  refine block_Slice_ok (by decide) (block_Piece_ok (v:=V18) V18_ok ?_)
  rw [e0]
  refine block_Glue_ok (by decide) (by decide) ?_
  have eg:glueB 5 2 [⟨2,[]⟩,⟨3,[⟨1,9⟩]⟩]=(V18,0):=by
    unfold glueB gluedS
    rw [if_neg (fun h=>h ⟨by omega,by unfold sideP; omega⟩),if_neg (by simp),if_pos]
    · decide +kernel
    · intro i hi
      simp only [List.length_cons,List.length_nil] at hi
      rcases Nat.lt_or_ge i 1 with h | h
      · obtain rfl:i=0:=by omega
        exact ⟨show VecP ⟨2,[]⟩ by decide,show (2:Int)=sizS 5 2 0 by decide +kernel⟩
      · obtain rfl:i=1:=by omega
        exact ⟨show VecP ⟨3,[⟨1,9⟩]⟩ by decide,show (3:Int)=sizS 5 2 1 by decide +kernel⟩
  rw [eg]
  refine block_Join_ok (by decide) (by simp) (by simp) ?_
  have ej:joinS 5 5 2 2 []=(zR,4):=by
    unfold joinS
    rw [if_neg (fun h=>h ⟨by omega,by unfold sideP; omega,by unfold sideP; omega⟩),if_pos (by simp)]
  rw [ej]
  refine block_Fit_ok (by decide) (by simp) ?_
  have ef:fitB 5 2 3 0 []=(zV,4):=by
    unfold fitB
    rw [if_neg (fun h=>h ⟨by omega,⟨⟨by unfold sideP; omega,by unfold sideP; omega⟩,by omega,by omega⟩⟩),if_pos (by simp)]
  rw [ef]
  refine block_Times_ok (v:=X18) M18_canon hT X18_ok (by unfold inI; decide) ?_
  have et:timesB 4 5 5 M18 X18 2 3=([⟨4,⟨0,3⟩⟩],0):=by
    unfold timesB
    rw [if_neg (by omega),if_neg (fun h=>h ⟨by unfold sideP; omega,by unfold sideP; omega⟩),if_neg (fun h=>h rfl)]
    have:=times_whole (r:=4) (p:=2) (q:=3) (by omega) M18_canon X18_ok rfl (by unfold sideP; omega) (by unfold sideP; omega)
    refine this.trans ?_
    decide +kernel
  rw [et]
  have ec:cutG 5 5 M18 2 2 1 0=builtS 3 2 [⟨2,1,7⟩]:=by decide +kernel
  have es:sliceS ⟨3,[⟨1,9⟩]⟩ 5 2 3 1 2=⟨2,[⟨0,9⟩]⟩:=by decide +kernel
  rw [ec,es]
  exact ifP_pos rfl (ifP_pos rfl (ifP_pos rfl (ifP_pos rfl (ifP_pos rfl (ifP_pos rfl (ifP_pos rfl (ref09_Same_ok (by decide) (ifP_pos rfl (ifP_pos rfl (ifP_pos rfl (ifP_pos rfl (ifP_pos rfl (idxP_intro (by decide) rfl hQ)))))))))))))
theorem partV_len (u:Vec) (a b:Int):(partV u a b).Items.length≤u.Items.length:=by
  unfold partV
  by_cases h:(if u.N<b then u.N else b)≤(if 0 > a then 0 else a)
  · rw [if_pos h]; simp [zV]
  · rw [if_neg h]; simp only [List.length_map]; exact List.length_filter_le _ _
theorem piece_len (v:Vec) (k i:Int):(pieceS v k i).Items.length≤v.Items.length:=by
  unfold pieceS; split
  · exact partV_len _ _ _
  · simp [zV]
theorem slice_len (v:Vec) (n r c i j:Int):(sliceS v n r c i j).Items.length≤v.Items.length:=by
  unfold sliceS; split
  · exact partV_len _ _ _
  · simp [zV]
theorem side_ok {x:Int} {Q:Int→Prop} (h:inR .u8 x) (hQ:∀ n:Nat,sideP n→Q n):law18_Side x Q:=by
  unfold law18_Side
  have hb:=bounds_u8 h
  have e:w64 ((w64 x).tmod 8+1)=((x.toNat % 8+1:Nat):Int):=by
    rw [w64_id (x:=x) (by omega) (by omega),Int.tmod_eq_emod_of_nonneg (by omega),w64_id (by omega) (by omega)]; omega
  rw [e]
  exact hQ _ (by unfold sideP; omega)
def segI (v:Vec) (x y:Int):Vec:=⟨y - x,(v.Items.filter fun t=>decide (x≤t.At∧t.At<y)).map fun t=>⟨t.At - x,t.Val⟩⟩
theorem seg_app {v:Vec} (hv:VecP v) {a x y:Int} (h1:a≤x) (h2:x≤y):(segI v a y).Items=(segI v a x).Items++((segI v x y).Items.map (shI (x - a))):=by
  unfold segI
  simp only
  have key:∀ l:List Item,IncI l→l.filter (fun t=>decide (a≤t.At∧t.At<y))=l.filter (fun t=>decide (a≤t.At∧t.At<x))++l.filter (fun t=>decide (x≤t.At∧t.At<y)):=by
    intro l
    induction l with
    | nil=>intro _; rfl
    | cons t l ih=>
      intro hi
      have hi2:=List.pairwise_cons.1 hi
      have ih:=ih hi2.2
      by_cases c1:a≤t.At∧t.At<x
      · rw [List.filter_cons_of_pos (by simp; omega),List.filter_cons_of_pos (by simp; omega),List.filter_cons_of_neg (by simp; omega),ih]; rfl
      · by_cases c2:x≤t.At∧t.At<y
        · have hn:l.filter (fun t=>decide (a≤t.At∧t.At<x))=[]:=List.filter_eq_nil_iff.2 fun u hu=>by
            have:=hi2.1 u hu; simp only [decide_eq_true_eq]; omega
          rw [List.filter_cons_of_pos (by simp; omega),List.filter_cons_of_neg (by simp; omega),List.filter_cons_of_pos (by simp; omega),ih,hn]; rfl
        · rw [List.filter_cons_of_neg (by simp; omega),List.filter_cons_of_neg (by simp; omega),List.filter_cons_of_neg (by simp; omega),ih]
  rw [key _ hv.inc,List.map_append,List.map_map]
  congr 1
  refine List.map_congr_left fun t _=>?_
  unfold shI
  simp only [Function.comp_apply,Item.mk.injEq]
  exact ⟨by omega,trivial⟩
theorem glue_run {v:Vec} (hv:VecP v) {u:Nat→Vec} {cl:Nat→Int} (hb:∀ i,0≤cl i∧cl i≤v.N) (hm:∀ i,cl i≤cl (i+1)):∀ (n i:Nat),(∀ k,k<i+n→sureV (u k)=segI v (cl k) (cl (k+1))) →
    glueS ((List.range' i n).map u) (segI v (cl 0) (cl i))=(segI v (cl 0) (cl (i+n)),0)
  | 0,i,_=>rfl
  | n+1,i,hu=>by
    have h1:=hu i (by omega)
    have h0:cl 0≤cl i:=by
      clear hu h1
      induction i with
      | zero=>exact Int.le_refl _
      | succ i ih=>exact Int.le_trans ih (hm i)
    have hi:=hm i
    have b0:=hb 0; have b1:=hb (i+1)
    have:=hv.n1
    rw [List.range'_succ,List.map_cons,glueS,h1]
    have e1:(segI v (cl 0) (cl i)).N=cl i - cl 0:=rfl
    have e2:(segI v (cl i) (cl (i+1))).N=cl (i+1) - cl i:=rfl
    rw [if_neg (by rw [e1,e2]; omega)]
    have e3:(⟨(segI v (cl 0) (cl i)).N+(segI v (cl i) (cl (i+1))).N,(segI v (cl 0) (cl i)).Items++(segI v (cl i) (cl (i+1))).Items.map (shI (segI v (cl 0) (cl i)).N)⟩:Vec)=segI v (cl 0) (cl (i+1)):=by
      rw [e1,e2,←seg_app hv h0 hi]
      unfold segI
      rw [show cl i - cl 0+(cl (i+1) - cl i)=cl (i+1) - cl 0 by omega]
    rw [e3,glue_run hv hb hm n (i+1) (fun k hk=>hu k (by omega)),show i+1+n=i+(n+1) by omega]
theorem seg_zero (v:Vec) (x:Int):segI v x x=zV:=by
  unfold segI zV
  rw [List.filter_eq_nil_iff.2 (fun t _=>by simp only [decide_eq_true_eq]; omega),Int.sub_self]; rfl
theorem part_seg {v:Vec} (hv:VecP v) {a b:Int} (h0:0≤a) (h1:a≤b) (h2:b≤v.N):partV v a b=segI v a b:=part_is hv h0 h1 h2
theorem seg_P {v:Vec} (hv:VecP v) {a b:Int} (h0:0≤a) (h1:a≤b) (h2:b≤v.N):VecP (segI v a b):=by rw [←part_seg hv h0 h1 h2]; exact (part_prop hv h0 h1 h2).1
theorem piece_seg {v:Vec} (hv:VecP v) {k i:Int} (hk:sideP k) (hi:0≤i∧i<k):pieceS v k i=segI v (lowS v.N k i) (lowS v.N k (i+1)):=by
  have h1:=low_b (n:=v.N) (k:=k) (i:=i); have h2:=low_b (n:=v.N) (k:=k) (i:=i+1); have h3:=low_mono (n:=v.N) (k:=k) (show i≤i+1 by omega)
  unfold pieceS
  rw [if_pos ⟨hk,hi⟩,part_seg hv h1.1 h3 (h2.2 hv.n0)]
theorem part_part {v:Vec} (hv:VecP v) {lo hi a b:Int} (h0:0≤lo) (h1:lo≤a) (h2:a≤b) (h3:b≤hi) (h4:hi≤v.N):partV (segI v lo hi) (a - lo) (b - lo)=segI v a b:=by
  have hN:(segI v lo hi).N=hi - lo:=rfl
  rw [part_is (seg_P hv h0 (by omega) h4) (by omega) (by omega) (by rw [hN]; omega)]
  unfold segI
  simp only
  rw [List.filter_map,List.map_map,List.filter_filter,show b - lo - (a - lo)=b - a by omega]
  congr 1
  have e:v.Items.filter (fun t=>((fun x:Item=>decide (a - lo≤x.At∧x.At<b - lo))∘fun t:Item=>(⟨t.At - lo,t.Val⟩:Item)) t && decide (lo≤t.At∧t.At<hi))=v.Items.filter fun t=>decide (a≤t.At∧t.At<b):=by
    refine List.filter_congr fun t _=>?_
    rw [Bool.eq_iff_iff]
    simp only [Function.comp_apply,Bool.and_eq_true,decide_eq_true_eq]
    omega
  rw [e]
  refine List.map_congr_left fun t _=>?_
  simp only [Function.comp_apply,Item.mk.injEq]
  exact ⟨by omega,trivial⟩
def clS (c d x:Int):Int:=if x<c then c else if d<x then d else x
theorem cl_mono {c d x y:Int} (h:c≤d) (hx:x≤y):clS c d x≤clS c d y:=by unfold clS; repeat' split <;> omega
theorem slice_seg {v:Vec} (hv:VecP v) {p q i j:Int} (hg:gridP p q i j):sliceS (pieceS v p i) v.N p q i j=segI v (clS (lowS v.N q j) (lowS v.N q (j+1)) (lowS v.N p i)) (clS (lowS v.N q j) (lowS v.N q (j+1)) (lowS v.N p (i+1))) ∧
    comB v.N p q i j - comA v.N p q i j=clS (lowS v.N q j) (lowS v.N q (j+1)) (lowS v.N p (i+1)) - clS (lowS v.N q j) (lowS v.N q (j+1)) (lowS v.N p i):=by
  have hpc:=piece_is hv hg.1.1 hg.2.1
  have hn:=hv.n0; have hn1:=hv.n1
  unfold sliceS
  rw [if_pos ⟨⟨hn,hn1⟩,hg,hpc.1,hpc.2.1⟩,piece_seg hv hg.1.1 hg.2.1]
  unfold comB comA mx mn
  have a0:=low_b (n:=v.N) (k:=p) (i:=i); have a1:=low_b (n:=v.N) (k:=p) (i:=i+1); have a2:=low_mono (n:=v.N) (k:=p) (show i≤i+1 by omega)
  have b0:=low_b (n:=v.N) (k:=q) (i:=j); have b1:=low_b (n:=v.N) (k:=q) (i:=j+1); have b2:=low_mono (n:=v.N) (k:=q) (show j≤j+1 by omega)
  have a1':=a1.2 hn; have b1':=b1.2 hn; have a0':=a0.1; have b0':=b0.1
  generalize lowS v.N p i=lo at *
  generalize lowS v.N p (i+1)=hi at *
  generalize lowS v.N q j=c at *
  generalize lowS v.N q (j+1)=d at *
  have key:∀ A B:Int,A=(if c > lo then c else lo)→B=(if (if d<hi then d else hi) > A then (if d<hi then d else hi) else A)→partV (segI v lo hi) (A - lo) (B - lo)=segI v (clS c d lo) (clS c d hi)∧B - A=clS c d hi - clS c d lo:=by
    intro A B hA hB
    by_cases h1:A≤hi
    · have hAl:lo≤A:=by rw [hA]; split <;> omega
      have hAB:A≤B:=by rw [hB]; split <;> omega
      have hBh:B≤hi:=by rw [hB]; repeat' split <;> omega
      rw [part_part hv a0' hAl hAB hBh a1']
      by_cases h2:A≤d
      · have e1:clS c d lo=A:=by unfold clS; rw [hA]; rw [hA] at h2; repeat' split <;> omega
        have e2:clS c d hi=B:=by
          unfold clS
          rw [hB]
          have hcA:c≤A:=by rw [hA]; split <;> omega
          repeat' split <;> omega
        rw [e1,e2]; exact ⟨rfl,rfl⟩
      · have e0:A=lo:=by rw [hA]; rw [hA] at h2; split <;> (split at h2 <;> omega)
        have e3:B=A:=by rw [hB]; repeat' split <;> omega
        have e1:clS c d lo=d:=by unfold clS; repeat' split <;> omega
        have e2:clS c d hi=d:=by unfold clS; repeat' split <;> omega
        rw [e1,e2,e3,seg_zero,seg_zero]; exact ⟨rfl,by omega⟩
    · have e0:A=c:=by rw [hA]; rw [hA] at h1; split <;> (split at h1 <;> omega)
      have e3:B=A:=by rw [hB]; repeat' split <;> omega
      have e1:clS c d lo=c:=by unfold clS; repeat' split <;> omega
      have e2:clS c d hi=c:=by unfold clS; repeat' split <;> omega
      have hz:partV (segI v lo hi) (A - lo) (B - lo)=zV:=by
        have hN:(segI v lo hi).N=hi - lo:=rfl
        unfold partV
        rw [hN,if_pos (by repeat' split <;> omega)]
      rw [hz,e1,e2,e3,seg_zero]; exact ⟨rfl,by omega⟩
  exact key _ _ rfl rfl
theorem BlockTurns_ok (a0:Law13_Task) (a1 a2:Int) (h0:okLaw13_Task a0) (h1:inR .u8 a1) (h2:inR .u8 a2):law18_BlockTurns a0 a1 a2 (fun r=>r=true):=by
  unfold law18_BlockTurns
  refine task_vec_ok h0 h0.2.2.2.1.1 fun v hvn hv hvv=>side_ok h1 fun p hp=>side_ok h2 fun q hq=>?_
  have hp':=hp; have hq':=hq
  unfold sideP at hp' hq'
  have hn0:=hv.n0; have hn1:=hv.n1; have hvl:=hv.len
  refine scan_intro q (by omega) (fun _=>True) trivial (fun j next hj _ hn=>?_) (fun next _=>?_)
  rotate_left
  · exact ifP_dec (fun h=>by omega) (fun _=>live18_ok rfl)
  refine ifP_dec (fun _=>?_) (fun h=>by omega)
  have hg:∀ i:Nat,i<p→gridP (p:Int) (q:Int) (i:Int) (j:Int):=fun i hi=>⟨⟨hp,hq⟩,by omega,by omega⟩
  refine range_intro (s0:=([]:List Vec)) (fun (s:List Vec) i=>(s,i)) 0 p (by omega) (fun i s=>s=(List.range i).map fun i:Nat=>sliceS (pieceS v p i) v.N p q i j) (by omega) (by simp) (fun i s nx _ hi hs hnx=>?_) (fun s nx hs=>?_)
  · have hpl:=piece_len v p i
    refine ifP_dec (fun _=>block_Piece_ok hv (block_Slice_ok (by omega) (appP_intro (by rw [hs]; simp; omega) (hnx _ ?_)))) (fun h=>by omega)
    rw [hs,List.range_succ,List.map_append]; rfl
  refine ifP_dec (fun h=>by omega) (fun _=>?_)
  have hsl:s.length=p:=by rw [hs]; simp
  have hbj:=low_b (n:=v.N) (k:=q) (i:=j); have hbj1:=low_b (n:=v.N) (k:=q) (i:=(j:Int)+1); have hbm:=low_mono (n:=v.N) (k:=q) (show (j:Int)≤(j:Int)+1 by omega)
  have hbj2:=hbj1.2 hn0
  refine block_Fit_ok (by omega) (fun u hu=>?_) ?_
  · rw [hs] at hu
    obtain ⟨i,_,rfl⟩:=List.mem_map.1 hu
    have:=slice_len (pieceS v p i) v.N p q i j; have:=piece_len v p i; omega
  have hclb:∀ x,lowS v.N q j≤clS (lowS v.N q j) (lowS v.N q ((j:Int)+1)) x∧clS (lowS v.N q j) (lowS v.N q ((j:Int)+1)) x≤lowS v.N q ((j:Int)+1):=fun x=>by unfold clS; repeat' split <;> omega
  have hF:fitB v.N p q j s=(pieceS v q j,0):=by
    unfold fitB gluedS
    rw [if_neg (fun h=>h ⟨⟨hn0,hn1⟩,⟨hp,hq⟩,by omega,by omega⟩),if_neg (by omega),if_pos]
    · have hrun:=glue_run hv (u:=fun i:Nat=>sliceS (pieceS v p i) v.N p q i j) (cl:=fun i:Nat=>clS (lowS v.N q j) (lowS v.N q ((j:Int)+1)) (lowS v.N p i)) (fun i=>by have:=hclb (lowS v.N p i); omega) (fun i=>cl_mono hbm (low_mono (by omega))) p 0 (fun k hk=>by
        have hsg:=(slice_seg hv (hg k (by omega))).1
        have h1:=hclb (lowS v.N p k); have h2:=hclb (lowS v.N p ((k:Int)+1))
        rw [hsg,sureV_id]
        · rw [Int.natCast_add,Int.natCast_one]
        · exact seg_P hv (by omega) (cl_mono hbm (low_mono (by omega))) (by omega))
      have hmv:mayP v.N p:=⟨⟨hn0,hn1⟩,hp⟩
      simp only [Int.natCast_zero,low_zero,Nat.zero_add] at hrun
      rw [low_top hmv] at hrun
      have e0:clS (lowS v.N q j) (lowS v.N q ((j:Int)+1)) 0=lowS v.N q j:=by unfold clS; have:=hbj.1; repeat' split <;> omega
      have e1:clS (lowS v.N q j) (lowS v.N q ((j:Int)+1)) v.N=lowS v.N q ((j:Int)+1):=by unfold clS; have:=hbj.2 hn0; repeat' split <;> omega
      rw [e0,e1,seg_zero,←List.range_eq_range'] at hrun
      rw [hs,piece_seg hv hq (by omega)]; exact hrun
    · intro i hi
      have e:s[i]=sliceS (pieceS v p i) v.N p q i j:=by simp [hs]
      have hsg:=slice_seg hv (hg i (by omega))
      have h1:=hclb (lowS v.N p i); have h2:=hclb (lowS v.N p ((i:Int)+1))
      rw [e,hsg.1]
      exact ⟨seg_P hv (by omega) (cl_mono hbm (low_mono (by omega))) (by omega),hsg.2.symm⟩
  rw [hF]
  have hpl:=piece_len v q j
  exact ifP_ne (fun h=>absurd rfl h) (fun _=>block_Piece_ok hv (ref09_Same_ok (by show (pieceS v q j).Items.length≤_; omega) (ifP_neg rfl (hn trivial))))
end Go.Proofs.YtpackolbhcmomaaGreat
