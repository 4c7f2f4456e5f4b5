import Derived.Test.YtpackolbhcmomaaGreatBlkC
namespace Go.Proofs.YtpackolbhcmomaaGreat
open Go Go.Fw
set_option linter.unusedVariables false
set_option linter.unusedSimpArgs false
def smallB (a:Rows):Prop:=a.Start.length≤1000000000000∧a.Col.length≤1000000000000
theorem smallB_of {a:Rows} (h:smallB a) (hr:RightP a):small a:=⟨h.1,h.2,by rw [hr.vl]; exact h.2⟩
theorem right_okb {a:Rows} {Q:Bool→Prop} (hl:smallB a) (hQ:Q (decide (RightP a))):csr_Right a Q:=by
  by_cases hv:a.Val.length=a.Col.length
  · exact right_ok ⟨hl.1,hl.2,by have:=hl.2; omega⟩ hQ
  · have hno:Q false:=by rwa [decide_eq_false (fun h=>hv h.vl)] at hQ
    unfold csr_Right
    exact within_ok (ifP_not (fun _=>hno) (fun _=>within_ok (ifP_not (fun _=>hno) (fun _=>ifP_ne (fun _=>hno) (fun _=>ifP_ne (fun _=>hno) (fun h=>absurd (by omega) hv))))))
def gR (l:List Rows) (k:Nat):Rows:=l.getD k zR
theorem gR_at {l:List Rows} {k:Nat} (h:k<l.length):l[k]=gR l k:=by simp [gR,List.getD_eq_getElem?_getD,h]
def addB (rows cols r:Int) (c:Nat) (k:Nat) (m:Rows):List Triple:=(trip m).map (shT (lowS rows r ((k / c:Nat):Int)) (lowS cols c ((k % c:Nat):Int)))
def allB (rows cols r:Int) (c:Nat) (l:List Rows) (n:Nat):List Triple:=(List.range n).flatMap fun k=>addB rows cols r c k (gR l k)
def goodB (rows cols r:Int) (c:Nat) (k:Nat) (m:Rows):Prop:=RightP m∧m.Rows=sizS rows r ((k / c:Nat):Int)∧m.Cols=sizS cols c ((k % c:Nat):Int)
theorem allB_succ (rows cols r:Int) (c:Nat) (l:List Rows) (n:Nat):allB rows cols r c l (n+1)=allB rows cols r c l n++addB rows cols r c n (gR l n):=by
  unfold allB; rw [List.range_succ,List.flatMap_append,List.flatMap_singleton]
open Classical in
noncomputable def joinS (rows cols r c:Int) (l:List Rows):Rows×Int:=
  if ¬(((0≤rows∧rows≤4096)∧(0≤cols∧cols≤4096))∧sideP r∧sideP c) then (zR,3) else if (l.length:Int)≠r*c then (zR,4)
  else if ∀ (k:Nat),k<l.length→goodB rows cols r c.toNat k (gR l k) then ofS 1 rows cols (allB rows cols r c.toNat l l.length) else (zR,4)
theorem trip_vals {m:Rows} (h:∀ x∈m.Val,inI x):∀ t∈trip m,inI t.Val:=fun t ht=>by
  unfold trip at ht
  obtain ⟨p,_,rfl⟩:=List.mem_map.1 ht
  simp only
  by_cases hp:(p:Int)<m.Val.length
  · exact h _ (at0_mem (by omega) hp)
  · rw [at0_over (by omega)]; unfold inI; omega
theorem sure_right {m:Rows} (h:RightP m):sureS m=builtS m.Rows m.Cols (trip m):=by
  unfold sureS; rw [if_pos h]; exact h.canon.2
theorem siz_le (n k i:Int):0≤sizS n k i∧sizS n k i≤4096:=by
  unfold sizS
  have h1:=low_le n k i; have h2:=low_le n k (i+1); have h3:=low_mono (n:=n) (k:=k) (show i≤i+1 by omega)
  split <;> omega
theorem part_side_ok {k:Int} {Q:Bool→Prop} (hQ:Q (decide (sideP k))):part_side k Q:=by
  unfold part_side
  refine ifP_dec (fun a=>toQ hQ ?_) (fun a=>toQ hQ ?_) <;> (unfold sideP; simp; omega)
theorem part_Row_ok {c k:Nat} {Q:Int→Prop} (hc:sideP c) (hk:k<8*c) (hQ:Q ((k / c:Nat):Int)):part_Row c k Q:=by
  unfold part_Row
  refine part_side_ok ?_
  rw [decide_eq_true hc]
  have hc':=hc
  unfold sideP at hc'
  refine ifP_neg rfl (ifP_dec (fun h=>by omega) (fun _=>?_))
  rw [w64_id (x:=(c:Int)*8) (by omega) (by omega)]
  refine ifP_dec (fun h=>by omega) (fun _=>⟨by omega,?_⟩)
  rw [Int.tdiv_eq_ediv_of_nonneg (by omega),←Int.natCast_ediv]
  have hq:k / c≤k:=Nat.div_le_self _ _
  generalize k / c=q at hq hQ ⊢
  rwa [w64_id (by omega) (by omega)]
theorem part_Col_ok {c k:Nat} {Q:Int→Prop} (hc:sideP c) (hk:k<8*c) (hQ:Q ((k % c:Nat):Int)):part_Col c k Q:=by
  unfold part_Col
  have hc':=hc
  unfold sideP at hc'
  refine part_Row_ok hc hk (ifP_dec (fun h=>absurd h (Int.not_lt.2 (Int.natCast_nonneg _))) (fun _=>⟨by omega,?_⟩))
  rwa [Int.tmod_eq_emod_of_nonneg (by omega),←Int.natCast_emod]
theorem add_loop {a b:Int} {ts:List Triple} {s:List Triple} {body:List Triple×Int→(List Triple×Int→Prop)→Prop} (hl:ts.length≤65536)
    (hs:∀ (i:Nat) (x:List Triple) (next:List Triple×Int→Prop) (hi:i<ts.length),x.length≤s.length+i→(next (x++[shT a b ts[i]],w64 ((i:Int)+1)))→body (x,(i:Int)) next)
    (he:∀ (next:List Triple×Int→Prop) x,x=s++ts.map (shT a b)→body (x,(ts.length:Int)) next):loopP body (s,0):=by
  refine range_intro (s0:=s) (fun (x:List Triple) i=>(x,i)) 0 ts.length (by omega) (fun i x=>x=s++(ts.take i).map (shT a b)) (by omega) (by simp) (fun i x next _ hi hx hn=>?_) (fun x next hx=>?_)
  · refine hs i x next hi (by subst hx; simp only [List.length_append,List.length_map,List.length_take]; omega) (hn _ ?_)
    subst hx
    rw [List.take_succ_eq_append_getElem hi,List.map_append,List.append_assoc]; rfl
  · rw [List.take_length] at hx
    exact he next x hx
theorem block_Join_ok {rows cols r c:Int} {l:List Rows} {Q:Rows×Int→Prop} (hl:l.length≤100) (hs:∀ m∈l,smallB m) (hv:∀ m∈l,∀ x∈m.Val,inI x) (hQ:Q (joinS rows cols r c l)):block_Join rows cols r c l Q:=by
  unfold block_Join joinP
  unfold joinS at hQ
  have hno:¬(((0≤rows∧rows≤4096)∧(0≤cols∧cols≤4096))∧sideP r∧sideP c)→Q (zR,3):=fun h=>by rwa [if_pos h] at hQ
  refine block_within_ok (ifP_not (fun h=>ifP_pos rfl (hno fun h'=>of_decide_eq_false h h'.1.1)) (fun h1=>block_within_ok (ifP_not (fun h=>ifP_pos rfl (hno fun h'=>of_decide_eq_false h h'.1.2)) (fun h2=>block_side_ok (ifP_not (fun h=>ifP_pos rfl (hno fun h'=>of_decide_eq_false h h'.2.1)) (fun h3=>block_side_ok ?_))))))
  refine ifP_not (fun h=>hno fun h'=>of_decide_eq_false h h'.2.2) (fun h4=>?_)
  have h1:=of_decide_eq_true h1; have h2:=of_decide_eq_true h2; have h3:=of_decide_eq_true h3; have h4:=of_decide_eq_true h4
  rw [if_neg (fun h=>h ⟨⟨h1,h2⟩,h3,h4⟩)] at hQ
  have h3':=h3; have h4':=h4
  unfold sideP at h3' h4'
  obtain ⟨rn,rfl⟩:∃ n:Nat,r=n:=⟨r.toNat,by omega⟩
  obtain ⟨cn,rfl⟩:∃ n:Nat,c=n:=⟨c.toNat,by omega⟩
  rw [Int.toNat_natCast] at hQ
  have hrc:(rn:Int)*cn=((rn*cn:Nat):Int):=(Int.natCast_mul _ _).symm
  have hle:rn*cn≤8*cn:=Nat.mul_le_mul_right _ (by omega)
  rw [hrc] at hQ ⊢
  rw [w64_id (by omega) (by omega)]
  refine ifP_ne (fun h=>by rwa [if_pos h] at hQ) (fun h5=>?_)
  rw [if_neg (fun h=>h h5)] at hQ
  refine range_intro (s0:=([]:List Triple)) (fun (s:List Triple) i=>(s,i)) 0 l.length (by omega) (fun k s=>s=allB rows cols rn cn l k∧s.length≤k*65536∧∀ q,q<k→goodB rows cols rn cn q (gR l q)) (by omega) ⟨rfl,by simp,fun q h=>by omega⟩ (fun k s next _ hk hm hn=>?_) (fun s next hm=>?_)
  · obtain ⟨m1,m2,m3⟩:=hm
    have hmem:=List.getElem_mem hk
    have hbad:¬goodB rows cols rn cn k (gR l k)→Q (zR,4):=fun h=>by
      rw [if_neg (fun ha=>h (ha k hk))] at hQ; exact hQ
    have hgood:goodB rows cols rn cn k (gR l k)→∀ s',s'=allB rows cols rn cn l (k+1)∧s'.length≤(k+1)*65536→next (s',w64 ((k:Int)+1)):=fun h s' hs'=>hn s' ⟨hs'.1,hs'.2,fun q hq=>by
      by_cases e:q=k
      · subst e; exact h
      · exact m3 q (by omega)⟩
    have hsm:=hs _ hmem
    refine ifP_dec (fun _=>idxP_nat hk (part_Row_ok h4 (by omega) (part_Col_ok h4 (by omega) ?_))) (fun h=>by omega)
    rw [allB_succ] at hgood
    rw [gR_at hk] at hsm ⊢
    unfold goodB at hbad hgood
    generalize hmm:gR l k=m at hsm hbad hgood ⊢
    refine right_okb hsm (ifP_not (fun h=>hbad fun h'=>of_decide_eq_false h h'.1) (fun h=>part_Size_ok (ifP_ne (fun h'=>hbad fun hg=>h' hg.2.1) (fun g2=>part_Size_ok (ifP_ne (fun h'=>hbad fun hg=>h' hg.2.2) (fun g3=>?_))))))
    have g1:=of_decide_eq_true h
    have hcan:=g1.canon.1
    have hsz:=siz_le rows rn ((k / cn:Nat):Int); have hsz2:=siz_le cols cn ((k % cn:Nat):Int)
    refine csr_triples_ok (smallB_of hsm g1) (sure_right g1) hcan (add_loop (a:=lowS rows rn ((k / cn:Nat):Int)) (b:=lowS cols cn ((k % cn:Nat):Int)) hcan.len (fun i x nx hi hx hnx=>?_) (fun nx x hx=>?_))
    · have ht:=hcan.inn _ (List.getElem_mem hi)
      unfold inT at ht
      have b1:=low_le rows rn ((k / cn:Nat):Int); have b2:=low_le cols cn ((k % cn:Nat):Int)
      have hll:=hcan.len
      refine ifP_dec (fun _=>idxP_nat hi (part_Low_ok (part_Low_ok ?_))) (fun h=>by omega)
      rw [w64_id (x:=((trip m)[i]).Row+_) (by omega) (by omega),w64_id (x:=((trip m)[i]).Col+_) (by omega) (by omega)]
      exact appP_intro (by simp; omega) hnx
    · refine ifP_dec (fun h=>by omega) (fun _=>hgood ⟨g1,g2,g3⟩ x ⟨?_,?_⟩)
      · rw [hx,m1]; rfl
      · rw [hx,List.length_append,List.length_map]; have:=hcan.len; omega
  · obtain ⟨m1,m2,m3⟩:=hm
    refine ifP_dec (fun h=>by omega) (fun _=>?_)
    rw [if_pos m3,←m1] at hQ
    refine Of_ok (by omega) (fun t ht=>?_) hQ
    rw [m1] at ht
    unfold allB at ht
    obtain ⟨k,hk,hx⟩:=List.mem_flatMap.1 ht
    unfold addB at hx
    obtain ⟨u,hu,rfl⟩:=List.mem_map.1 hx
    have hk:=List.mem_range.1 hk
    exact trip_vals (hv (gR l k) (by rw [←gR_at hk]; exact List.getElem_mem hk)) u hu
def shS (a:Int) (s:Sum):Sum:=⟨s.At+a,s.Val⟩
def Tb (rows cols:Int) (T:List Triple) (p q i j:Int):List Triple:=cutT (lowS rows p i) (lowS rows p (i+1)) (lowS cols q j) (lowS cols q (j+1)) T
def blkB (r rows cols:Int) (T:List Triple) (v:Vec) (p q i j:Int):List Sum:=sumsS r (sizS rows p i).toNat (sizS cols q j).toNat [] true (fun a=>lkI (rowI (Tb rows cols T p q i j) a)) (lkI (pieceS v q j).Items)
def blkL (r rows cols:Int) (T:List Triple) (v:Vec) (p q i j:Int):List Sum:=(blkB r rows cols T v p q i j).map (shS (lowS rows p i))
def rowL (r rows cols:Int) (T:List Triple) (v:Vec) (p q:Int) (i:Nat) (n:Nat):List (List Sum):=(List.range n).map fun j:Nat=>blkL r rows cols T v p q i j
def LL (r rows cols:Int) (T:List Triple) (v:Vec) (p q:Int) (m n:Nat):List (List Sum):=(List.range m).flatMap fun i:Nat=>rowL r rows cols T v p q i n
open Classical in
noncomputable def timesB (r rows cols:Int) (T:List Triple) (v:Vec) (p q:Int):List Sum×Int:=
  if ¬(1≤r∧r≤5) then ([],8) else if ¬(sideP p∧sideP q) then ([],3) else if v.N≠cols then ([],4) else mergeP r (LL r rows cols T v p q p.toNat q.toNat)
theorem piece_is {v:Vec} (hv:VecP v) {q j:Int} (hq:sideP q) (hj:0≤j∧j<q):VecP (pieceS v q j)∧(pieceS v q j).N=sizS v.N q j∧(∀ k,0≤k→k<sizS v.N q j→lkI (pieceS v q j).Items k=lkI v.Items (k+lowS v.N q j))∧((∀ x∈v.Items,inI x.Val)→∀ x∈(pieceS v q j).Items,inI x.Val):=by
  have h1:=low_b (n:=v.N) (k:=q) (i:=j); have h2:=low_b (n:=v.N) (k:=q) (i:=j+1)
  have h3:=low_mono (n:=v.N) (k:=q) (show j≤j+1 by omega)
  have:=part_prop hv h1.1 h3 (h2.2 hv.n0)
  unfold pieceS sizS
  rw [if_pos ⟨hq,hj⟩,if_pos hj]
  exact this
theorem siz_n {n k i:Int} (hn:0≤n):0≤sizS n k i∧sizS n k i≤n:=by
  unfold sizS
  have h1:=low_b (n:=n) (k:=k) (i:=i); have h2:=low_b (n:=n) (k:=k) (i:=i+1); have h3:=low_mono (n:=n) (k:=k) (show i≤i+1 by omega)
  have:=h2.2 hn
  split <;> omega
theorem Tb_vals {rows cols:Int} {T:List Triple} {p q i j:Int} (h:∀ t∈T,inI t.Val):∀ t∈Tb rows cols T p q i j,inI t.Val:=fun t ht=>by
  have:=h _ ((cut_mem t).1 ht).1
  exact this
theorem rise_sh {a:Int} {l:List Sum} (h:Rise l):Rise (l.map (shS a)):=by
  unfold Rise at *
  rw [List.pairwise_map]
  exact h.imp fun {x y} hxy=>by unfold shS; simp only; omega
theorem lk_sh {a:Int}:∀ (l:List Sum) (i:Int),lk (l.map (shS a)) i=lk l (i - a)
  | [],_=>rfl
  | s :: l,i=>by
    rw [List.map_cons,lk_cons,lk_cons,lk_sh l i]
    unfold shS
    simp only
    by_cases e:i=s.At+a
    · rw [if_pos e,if_pos (by omega)]
    · rw [if_neg e,if_neg (by omega)]
theorem hasF_nil {x:Int}:hasF [] x=false:=by
  by_cases hx:x<0
  · exact hasF_neg hx
  · exact hasF_over (by simp; omega)
theorem blk_prop (r rows cols:Int) (T:List Triple) (v:Vec) (p q i j:Int):Rise (blkL r rows cols T v p q i j)∧(blkL r rows cols T v p q i j).length≤(sizS rows p i).toNat∧okS (blkL r rows cols T v p q i j) ∧
    ∀ x:Int,lk (blkL r rows cols T v p q i j) x=if 0≤x - lowS rows p i∧x - lowS rows p i<((sizS rows p i).toNat:Nat) then rowW r (sizS cols q j).toNat (lkI (rowI (Tb rows cols T p q i j) (x - lowS rows p i))) (lkI (pieceS v q j).Items) else none:=by
  have h:=sumsS_prop r (sizS cols q j).toNat [] true (fun a=>lkI (rowI (Tb rows cols T p q i j) a)) (lkI (pieceS v q j).Items) (sizS rows p i).toNat
  unfold blkL blkB
  refine ⟨rise_sh h.1,by rw [List.length_map]; exact h.2.1,fun s hs=>?_,fun x=>?_⟩
  · obtain ⟨u,hu,rfl⟩:=List.mem_map.1 hs
    exact h.2.2.1 u hu
  · rw [lk_sh,h.2.2.2.2]
    have ha:askF [] true (x - lowS rows p i)=true:=by unfold askF; rw [hasF_nil]; rfl
    by_cases hc:0≤x - lowS rows p i∧x - lowS rows p i<((sizS rows p i).toNat:Nat)
    · rw [if_pos ⟨hc.1,hc.2,ha⟩,if_pos hc]
    · rw [if_neg (fun h'=>hc ⟨h'.1,h'.2.1⟩),if_neg hc]
theorem rowW_none (r:Int) (A:Int→Option Int):∀ n:Nat,rowW r n A (fun _=>none)=none
  | 0=>rfl
  | n+1=>by
    rw [rowW_succ,rowW_none r A n]
    unfold stepW
    cases A n <;> rfl
theorem blk_empty {r rows cols:Int} {T:List Triple} {v:Vec} {p q i j:Int} (h:(pieceS v q j).Items=[]):blkL r rows cols T v p q i j=[]:=by
  have hp:=blk_prop r rows cols T v p q i j
  refine rise_ext hp.1 .nil fun x=>?_
  rw [hp.2.2.2,h]
  have e:lkI []=fun _=>none:=rfl
  rw [e,rowW_none,lk_nil]
  split <;> rfl
theorem total_le {m:Nat}:∀ {L:List (List Sum)},(∀ l∈L,l.length≤m)→total L≤L.length*m
  | [],_=>by simp [total]
  | x :: L,h=>by
    have h1:=total_le fun l hl=>h l (List.mem_cons_of_mem _ hl)
    have h2:=h x List.mem_cons_self
    unfold total at h1 ⊢
    simp only [List.map_cons,List.foldr_cons,List.length_cons,Nat.succ_mul]
    omega
theorem LL_mem {r rows cols:Int} {T:List Triple} {v:Vec} {p q:Int} {m n:Nat} {l:List Sum} (h:l∈LL r rows cols T v p q m n):∃ i j:Nat,i<m∧j<n∧l=blkL r rows cols T v p q i j:=by
  unfold LL rowL at h
  obtain ⟨i,hi,hx⟩:=List.mem_flatMap.1 h
  obtain ⟨j,hj,rfl⟩:=List.mem_map.1 hx
  exact ⟨i,j,List.mem_range.1 hi,List.mem_range.1 hj,rfl⟩
theorem LL_len (r rows cols:Int) (T:List Triple) (v:Vec) (p q:Int) (n:Nat):∀ m:Nat,(LL r rows cols T v p q m n).length=m*n
  | 0=>by simp [LL]
  | m+1=>by
    have ih:=LL_len r rows cols T v p q n m
    unfold LL rowL at ih ⊢
    rw [List.range_succ,List.flatMap_append,List.length_append,ih,List.flatMap_singleton,List.length_map,List.length_range,Nat.succ_mul]
theorem blk_push {r rows cols:Int} {T:List Triple} {v:Vec} {p q i j:Int} {Q:List Sum×Int→Prop} (h:Canon rows cols T) (hT:∀ t∈T,inI t.Val) (hr:1≤r∧r≤5) (hv:VecP v) (hvv:∀ x∈v.Items,inI x.Val) (hn:v.N=cols) (hg:gridP p q i j)
    (hQ:Q (blkB r rows cols T v p q i j,0)):dcsc_Of (cutG rows cols T p q i j) fun c=>push_Sums r c (pieceS v q j) [] true Q:=by
  obtain ⟨e,hc⟩:=cutG_canon h hg
  have hp:=piece_is hv hg.1.2 hg.2.2
  rw [hn] at hp
  have hct:=turn_canon hc
  rw [e]
  refine dcsc_of_ok hc.sml (sure_built hc) (fun _=>rfl) (fun h'=>absurd hc.right h') hc (push_Sums_ok hct.smlC (sureC_col hct) hct (turnT_vals hc (Tb_vals hT)) (by have:=hp.1.len; omega) (by rw [sureV_id hp.1]; exact hp.2.2.2 hvv) nil_okF ?_)
  rw [sureV_id hp.1,←sums_turn hct,turn_turn hc]
  unfold sumsR
  rw [if_neg (fun h=>h hr),if_neg (fun h=>h hp.2.1)]
  exact hQ
def MapB (f:Nat→Nat→List Sum) (p q:Nat) (m:List ((Int×Int)×List Sum)) (J I:Nat):Prop:=∀ a b:Nat,a<p→b<q→(mget ((a:Int),(b:Int)) m).getD []=if b<J∨(b=J∧a<I) then f a b else []
theorem map_put {f:Nat→Nat→List Sum} {p q J I:Nat} {m:List ((Int×Int)×List Sum)} (h:MapB f p q m J I):MapB f p q (mput ((I:Int),(J:Int)) (f I J) m) J (I+1):=by
  intro a b ha hb
  by_cases e:a=I∧b=J
  · obtain ⟨rfl,rfl⟩:=e
    rw [mget_mput_same,if_pos (.inr ⟨rfl,by omega⟩)]; rfl
  · have hne:((a:Int),(b:Int))≠((I:Int),(J:Int)):=fun h=>by
      have h1:=congrArg Prod.fst h; have h2:=congrArg Prod.snd h
      simp only at h1 h2
      exact e ⟨by omega,by omega⟩
    rw [mget_mput_other hne,h a b ha hb]
    by_cases hc:b<J∨(b=J∧a<I)
    · rw [if_pos hc,if_pos (by omega)]
    · rw [if_neg hc,if_neg (by omega)]
theorem map_next {f:Nat→Nat→List Sum} {p q J:Nat} {m:List ((Int×Int)×List Sum)} (h:MapB f p q m J p):MapB f p q m (J+1) 0:=by
  intro a b ha hb
  rw [h a b ha hb]
  by_cases hc:b<J∨(b=J∧a<p)
  · rw [if_pos hc,if_pos (by omega)]
  · rw [if_neg hc,if_neg (by omega)]
theorem map_skip {f:Nat→Nat→List Sum} {p q J:Nat} {m:List ((Int×Int)×List Sum)} (h:MapB f p q m J 0) (hf:∀ a,a<p→f a J=[]):MapB f p q m (J+1) 0:=by
  intro a b ha hb
  rw [h a b ha hb]
  by_cases hc:b<J
  · rw [if_pos (.inl hc),if_pos (by omega)]
  · rw [if_neg (by omega)]
    by_cases e:b=J
    · subst e; rw [if_pos (by omega),hf a ha]
    · rw [if_neg (by omega)]
theorem block_Times_ok {r rows cols:Int} {T:List Triple} {v:Vec} {p q:Int} {Q:List Sum×Int→Prop} (h:Canon rows cols T) (hT:∀ t∈T,inI t.Val) (hv:VecP v) (hvv:∀ x∈v.Items,inI x.Val) (hQ:Q (timesB r rows cols T v p q)):block_Times r (builtS rows cols T) v p q Q:=by
  unfold block_Times joinP
  unfold timesB at hQ
  refine right_ok h.sml ?_
  rw [decide_eq_true h.right]
  refine ifP_neg rfl ?_
  refine spvec_Right_ok (by have:=hv.len; omega) ?_
  rw [decide_eq_true hv]
  refine ifP_neg rfl ?_
  show ring_Is r _
  refine ring_Is_ok (ifP_not (fun h1=>by rwa [if_pos (of_decide_eq_false h1)] at hQ) (fun h1=>?_))
  have h1:=of_decide_eq_true h1
  rw [if_neg (fun h=>h h1)] at hQ
  refine block_side_ok (ifP_not (fun h2=>ifP_pos rfl ?_) (fun h2=>block_side_ok (ifP_not (fun h3=>?_) (fun h3=>?_))))
  · rwa [if_pos (fun h=>of_decide_eq_false h2 h.1)] at hQ
  · rwa [if_pos (fun h=>of_decide_eq_false h3 h.2)] at hQ
  have h2:sideP p∧sideP q:=⟨of_decide_eq_true h2,of_decide_eq_true h3⟩
  rw [if_neg (fun h=>h h2)] at hQ
  refine ifP_ne (fun h4=>by rwa [if_pos (show v.N≠cols from h4)] at hQ) (fun h4=>?_)
  have hN:v.N=cols:=h4
  rw [if_neg (fun h=>h hN)] at hQ
  have hp:=h2.1; have hq:=h2.2
  unfold sideP at hp hq
  obtain ⟨m,rfl⟩:∃ n:Nat,p=n:=⟨p.toNat,by omega⟩
  obtain ⟨n,rfl⟩:∃ n:Nat,q=n:=⟨q.toNat,by omega⟩
  rw [Int.toNat_natCast,Int.toNat_natCast] at hQ
  have hmn:m*n≤8*n:=Nat.mul_le_mul_right _ (by omega)
  show block_blocks_03e r (builtS rows cols T) v m n _ _
  unfold block_blocks_03e
  refine range_intro (s0:=([]:List ((Int×Int)×List Sum))) (fun (s:List ((Int×Int)×List Sum)) j=>(s,j)) 0 n (by omega) (fun j s=>MapB (fun a b=>blkL r rows cols T v m n a b) m n s j 0) (by omega) (fun a b _ _=>by rw [if_neg (by omega)]; rfl) (fun j s next _ hj hs hn=>?_) (fun s next hs=>?_)
  · refine ifP_dec (fun _=>block_Piece_ok hv (ifP_eq (fun he=>?_) (fun he=>?_))) (fun h=>by omega)
    · have hnil:(pieceS v n j).Items=[]:=List.eq_nil_of_length_eq_zero (by omega)
      exact hn s (map_skip hs fun a _=>blk_empty hnil)
    · refine range_intro (s0:=s) (fun (s:List ((Int×Int)×List Sum)) i=>(s,i)) 0 m (by omega) (fun i s=>MapB (fun a b=>blkL r rows cols T v m n a b) m n s j i) (by omega) hs (fun i s nx _ hi hs hnx=>?_) (fun s nx hs=>?_)
      · have hg:gridP (m:Int) (n:Int) (i:Int) (j:Int):=⟨h2,by omega,by omega⟩
        refine ifP_dec (fun _=>block_Cut_ok h (blk_push h hT h1 hv hvv hN hg (ifP_ne (fun h=>absurd rfl h) (fun _=>?_)))) (fun h=>by omega)
        have hb:=sumsS_prop r (sizS cols n j).toNat [] true (fun a=>lkI (rowI (Tb rows cols T m n i j) a)) (lkI (pieceS v n j).Items) (sizS rows m i).toNat
        have hbe:blkB r rows cols T v m n i j=sumsS r (sizS rows m i).toNat (sizS cols n j).toNat [] true (fun a=>lkI (rowI (Tb rows cols T m n i j) a)) (lkI (pieceS v n j).Items):=rfl
        rw [←hbe] at hb
        have hLe:blkL r rows cols T v m n i j=(blkB r rows cols T v m n i j).map (shS (lowS rows m i)):=rfl
        have hput:=map_put hs
        rw [hLe] at hput
        generalize blkB r rows cols T v m n i j=l at hb hput ⊢
        have hsz:=siz_n (n:=rows) (k:=m) (i:=i) h.r0
        have:=h.r1
        have hlo:=low_le rows m i
        dsimp only
        refine set_loop (g:=shS (lowS rows m i)) (by omega) (fun k x ny hk hsl hget hny=>?_) (fun ny x hx=>?_)
        · have hat:=hb.2.2.2.1 _ (List.getElem_mem hk)
          refine ifP_dec (fun _=>idxP_nat (i:=k) (by show k<x.length; omega) (part_Low_ok (idxP_nat (i:=k) (by show k<x.length; omega) ?_))) (fun h=>by omega)
          dsimp only
          rw [hget]
          have hRw:(builtS rows cols T).Rows=rows:=rfl
          rw [hRw,w64_id (x:=(l[k]).At+_) (by omega) (by omega)]
          exact hny
        · subst hx
          exact ifP_dec (fun h=>by omega) (fun _=>hnx _ hput)
      · exact ifP_dec (fun h=>by omega) (fun _=>hn s (map_next hs))
  · refine ifP_dec (fun h=>by omega) (fun _=>ifP_ne (fun h=>absurd rfl h) (fun _=>?_))
    have hlen:=LL_len r rows cols T v m n n
    refine range_intro (s0:=([]:List (List Sum))) (fun (x:List (List Sum)) i=>(x,i)) 0 m (by omega) (fun i x=>x=LL r rows cols T v m n i n) (by omega) (by simp [LL]) (fun i x nx _ hi hx hnx=>?_) (fun x nx hx=>?_)
    · have hli:=hlen i
      have hin:i*n≤m*n:=Nat.mul_le_mul_right _ (by omega)
      refine ifP_dec (fun _=>?_) (fun h=>by omega)
      refine range_intro (s0:=x) (fun (y:List (List Sum)) j=>(y,j)) 0 n (by omega) (fun j y=>y=LL r rows cols T v m n i n++rowL r rows cols T v m n i j) (by omega) (by rw [hx]; simp [rowL]) (fun j y ny _ hj hy hny=>?_) (fun y ny hy=>?_)
      · refine ifP_dec (fun _=>lkP_intro ?_) (fun h=>by omega)
        have hget:=hs i j hi hj
        rw [if_pos (.inl hj)] at hget
        simp only at hget ⊢
        rw [hget]
        refine appP_intro (by rw [hy,List.length_append,hli]; simp [rowL]; omega) (hny _ ?_)
        rw [hy]
        unfold rowL
        rw [List.range_succ,List.map_append,List.append_assoc]; rfl
      · refine ifP_dec (fun h=>by omega) (fun _=>hnx _ ?_)
        rw [hy]
        unfold LL
        rw [List.range_succ,List.flatMap_append,List.flatMap_singleton]
    · refine ifP_dec (fun h=>by omega) (fun _=>?_)
      subst hx
      have hsz:∀ l∈LL r rows cols T v m n m n,l.length≤4096:=fun l hl=>by
        obtain ⟨i,j,_,_,rfl⟩:=LL_mem hl
        have:=(blk_prop r rows cols T v m n i j).2.1
        have hsz:=siz_le rows m i
        omega
      have ht:=total_le hsz
      refine push_merge_ok (by rw [hlen]; omega) (fun l hl=>by have:=hsz l hl; omega) (by rw [hlen] at ht; omega) (fun l hl=>?_) hQ
      obtain ⟨i,j,_,_,rfl⟩:=LL_mem hl
      exact (blk_prop r rows cols T v m n i j).2.2.1
theorem rowB_look {rows cols:Int} {T:List Triple} (h:Canon rows cols T) {i j a:Int} (hi:0≤i):lkI (rowI T i) j=some a↔(⟨i,j,a⟩:Triple)∈T:=by
  have hinc:IncI ((segS T i.toNat).map itS):=by
    unfold IncI segS
    rw [List.pairwise_map]
    refine List.Pairwise.imp_of_mem ?_ (List.Pairwise.filter _ h.srt)
    intro a b ha hb hab
    have h1:=of_decide_eq_true (List.mem_filter.1 ha).2
    have h2:=of_decide_eq_true (List.mem_filter.1 hb).2
    unfold ltK key at hab
    simp only [itS]
    simp only at hab
    omega
  unfold rowI
  rw [lkI_iff hinc,List.mem_map]
  unfold segS
  constructor
  · rintro ⟨t,ht,he⟩
    obtain ⟨h1,h2⟩:=List.mem_filter.1 ht
    have h3:=of_decide_eq_true h2
    unfold itS at he
    obtain ⟨tr,tc,tv⟩:=t
    simp only [Item.mk.injEq] at he h3
    obtain ⟨rfl,rfl⟩:=he
    rw [show i=tr by omega]
    exact h1
  · intro ht
    exact ⟨_,List.mem_filter.2 ⟨ht,by simp; omega⟩,rfl⟩
theorem row_steps {r rows cols:Int} {T:List Triple} {v:Vec} {p q:Nat} (h:Canon rows cols T) (hv:VecP v) (hn:v.N=cols) (hp:sideP p) (hq:sideP q) {i:Nat} (hi:i<p) {x:Int} (h0:lowS rows p i≤x) (h1:x<lowS rows p ((i:Int)+1)) :
    ∀ n:Nat,n≤q→(rowL r rows cols T v p q i n).foldl (fun acc l=>cmb r acc (lk l x)) none=rowW r (lowS cols q n).toNat (lkI (rowI T x)) (lkI v.Items)
  | 0,_=>by rw [Int.natCast_zero,low_zero]; rfl
  | n+1,hnq=>by
    have ih:=row_steps (r:=r) h hv hn hp hq hi h0 h1 n (by omega)
    have hl0:=low_le rows p i
    have e:rowL r rows cols T v p q i (n+1)=rowL r rows cols T v p q i n++[blkL r rows cols T v p q i n]:=by unfold rowL; rw [List.range_succ,List.map_append]; rfl
    rw [e,List.foldl_append,ih,List.foldl_cons,List.foldl_nil]
    have hg:gridP (p:Int) (q:Int) (i:Int) (n:Int):=⟨⟨hp,hq⟩,by omega,by omega⟩
    obtain ⟨_,hc⟩:=cutG_canon h hg
    have hsr:sizS rows p i=lowS rows p ((i:Int)+1) - lowS rows p i:=by unfold sizS; rw [if_pos (by omega)]
    have hsc:sizS cols q n=lowS cols q ((n:Int)+1) - lowS cols q n:=by unfold sizS; rw [if_pos (by omega)]
    have hlc:=low_le cols q n; have hmono:=low_mono (n:=cols) (k:=q) (show (n:Int)≤(n:Int)+1 by omega)
    rw [(blk_prop r rows cols T v p q i n).2.2.2,if_pos (by omega)]
    have hsum:(lowS cols q ((n+1:Nat):Int)).toNat=(lowS cols q n).toNat+(sizS cols q n).toNat:=by
      rw [Int.natCast_add,Int.natCast_one]; omega
    rw [hsum,rowW_add]
    congr 1
    have hpc:=piece_is hv hq (j:=n) (by omega)
    rw [hn] at hpc
    refine rowW_congr (fun j hj=>?_) (fun j hj=>?_)
    · refine opt_ext fun a=>?_
      have e1:(Tb rows cols T p q i n)=cutT (lowS rows p i) (lowS rows p ((i:Int)+1)) (lowS cols q n) (lowS cols q ((n:Int)+1)) T:=rfl
      rw [e1,rowB_look hc (by omega),rowB_look h (by omega),cut_mem]
      simp only
      rw [show x - lowS rows p i+lowS rows p i=x by omega,Int.toNat_of_nonneg hlc.1]
      exact ⟨fun hh=>hh.1,fun hh=>⟨hh,by omega,by omega⟩⟩
    · rw [hpc.2.2.1 j (by omega) (by omega),Int.toNat_of_nonneg hlc.1]
theorem fold_keep {r:Int} {x:Int}:∀ {L:List (List Sum)} {acc:Option Wide},(∀ l∈L,lk l x=none)→L.foldl (fun acc l=>cmb r acc (lk l x)) acc=acc
  | [],_,_=>rfl
  | l :: L,acc,h=>by
    rw [List.foldl_cons,h l List.mem_cons_self,cmb_none]
    exact fold_keep fun m hm=>h m (List.mem_cons_of_mem _ hm)
theorem strips_steps {r rows cols:Int} {T:List Triple} {v:Vec} {p q:Nat} (h:Canon rows cols T) (hv:VecP v) (hn:v.N=cols) (hp:sideP p) (hq:sideP q) (x:Int) :
    ∀ m:Nat,m≤p→(LL r rows cols T v p q m q).foldl (fun acc l=>cmb r acc (lk l x)) none=if 0≤x∧x<lowS rows p m then rowW r cols.toNat (lkI (rowI T x)) (lkI v.Items) else none
  | 0,_=>by
    rw [Int.natCast_zero,low_zero,if_neg (by omega)]; simp [LL]
  | m+1,hm=>by
    have ih:=strips_steps (r:=r) h hv hn hp hq x m (by omega)
    have e:LL r rows cols T v p q (m+1) q=LL r rows cols T v p q m q++rowL r rows cols T v p q m q:=by unfold LL; rw [List.range_succ,List.flatMap_append,List.flatMap_singleton]
    have hmono:=low_mono (n:=rows) (k:=p) (show (m:Int)≤(m:Int)+1 by omega)
    have hl0:=low_le rows p m
    rw [e,List.foldl_append,ih,Int.natCast_add,Int.natCast_one]
    have hsr:sizS rows p m=lowS rows p ((m:Int)+1) - lowS rows p m:=by unfold sizS; rw [if_pos (by omega)]
    by_cases h1:lowS rows p m≤x∧x<lowS rows p ((m:Int)+1)
    · rw [if_neg (by omega),if_pos (by omega),row_steps h hv hn hp hq (by omega) h1.1 h1.2 q (Nat.le_refl _)]
      have hc:mayP cols q:=⟨⟨h.c0,h.c1⟩,hq⟩
      rw [low_top hc]
    · rw [fold_keep]
      · by_cases h2:0≤x∧x<lowS rows p m
        · rw [if_pos h2,if_pos (by omega)]
        · rw [if_neg h2,if_neg (by omega)]
      · intro l hl
        unfold rowL at hl
        obtain ⟨j,_,rfl⟩:=List.mem_map.1 hl
        rw [(blk_prop r rows cols T v p q m j).2.2.2,if_neg (by omega)]
theorem times_whole {r rows cols:Int} {T:List Triple} {v:Vec} {p q:Nat} (hr:1≤r∧r≤5) (h:Canon rows cols T) (hv:VecP v) (hn:v.N=cols) (hp:sideP p) (hq:sideP q) :
    mergeP r (LL r rows cols T v p q p q)=(sumsS r rows.toNat cols.toNat [] true (fun i=>lkI (rowI T i)) (lkI v.Items),0):=by
  have hrise:∀ l∈LL r rows cols T v p q p q,Rise l:=fun l hl=>by
    obtain ⟨i,j,_,_,rfl⟩:=LL_mem hl
    exact (blk_prop r rows cols T v p q i j).1
  have hm:=merge_prop r _ hrise _ (Nat.le_refl _)
  rw [List.take_length] at hm
  have hs:=sumsS_prop r cols.toNat [] true (fun i=>lkI (rowI T i)) (lkI v.Items) rows.toNat
  unfold mergeP
  rw [if_neg (fun h=>h hr),if_neg (fun ⟨l,hl,hn⟩=>hn (hrise l hl))]
  refine congrArg (fun z=>(z,(0:Int))) (rise_ext hm.1 hs.1 fun x=>?_)
  rw [hm.2.2.2,hs.2.2.2.2,foldR_list r x _ _ (Nat.le_refl _),List.take_length,strips_steps h hv hn hp hq x p (Nat.le_refl _)]
  have hc:mayP rows p:=⟨⟨h.r0,h.r1⟩,hp⟩
  have hr0:=h.r0
  rw [low_top hc]
  have ha:askF [] true x=true:=by unfold askF; rw [hasF_nil]; rfl
  by_cases hx:0≤x∧x<rows
  · rw [if_pos hx,if_pos ⟨hx.1,by omega,ha⟩]
  · rw [if_neg hx,if_neg (by omega)]
def M18:List Triple:=[⟨4,1,7⟩]
def V18:Vec:=⟨5,[⟨3,9⟩]⟩
def X18:Vec:=⟨5,[⟨1,3⟩]⟩
theorem M18_canon:Canon 5 5 M18:=⟨by decide,by decide,by decide,by decide,by decide,by unfold Srt; decide,by decide⟩
theorem V18_ok:VecP V18:=by decide
theorem X18_ok:VecP X18:=by decide
theorem live18_ok {Q:Bool→Prop} (hQ:Q true):law18_live Q:=by
  unfold law18_live
  refine ref_Of_ok (by decide) (by unfold inI; decide) ?_
  rw [show ofS 1 5 5 ([({ Row:=4,Col:=1,Val:=7 }:Triple)])=(builtS 5 5 M18,0) from of_self (r:=1) M18_canon (by unfold inI; decide) (by omega)]
  have hT:∀ t∈M18,inI t.Val:=by unfold inI; decide
  refine block_Cut_ok M18_canon (block_Piece_ok (v:=V18) V18_ok ?_)
  have e1:pieceS V18 2 1=⟨3,[⟨1,9⟩]⟩:=by decide +kernel
  have e0:pieceS V18 2 0=⟨2,[]⟩:=by decide +kernel
  rw [e1]
  refine block_Slice_ok (by decide) (block_Piece_ok (v:=V18) V18_ok ?_)
  rw [e0]
  refine block_Glue_ok (by decide) (by decide) ?_
  have eg:glueB 5 2 [⟨2,[]⟩,⟨3,[⟨1,9⟩]⟩]=(V18,0):=by
    unfold glueB gluedS
    rw [if_neg (fun h=>h ⟨by omega,by unfold sideP; omega⟩),if_neg (by simp),if_pos]
    · decide +kernel
    · intro i hi
      simp only [List.length_cons,List.length_nil] at hi
      rcases Nat.lt_or_ge i 1 with h | h
      · obtain rfl:i=0:=by omega
        exact ⟨show VecP ⟨2,[]⟩ by decide,show (2:Int)=sizS 5 2 0 by decide +kernel⟩
      · obtain rfl:i=1:=by omega
        exact ⟨show VecP ⟨3,[⟨1,9⟩]⟩ by decide,show (3:Int)=sizS 5 2 1 by decide +kernel⟩
  rw [eg]
  refine block_Join_ok (by decide) (by simp) (by simp) ?_
  have ej:joinS 5 5 2 2 []=(zR,4):=by
    unfold joinS
    rw [if_neg (fun h=>h ⟨by omega,by unfold sideP; omega,by unfold sideP; omega⟩),if_pos (by simp)]
  rw [ej]
  refine block_Fit_ok (by decide) (by simp) ?_
  have ef:fitB 5 2 3 0 []=(zV,4):=by
    unfold fitB
    rw [if_neg (fun h=>h ⟨by omega,⟨⟨by unfold sideP; omega,by unfold sideP; omega⟩,by omega,by omega⟩⟩),if_pos (by simp)]
  rw [ef]
  refine block_Times_ok (v:=X18) M18_canon hT X18_ok (by unfold inI; decide) ?_
  have et:timesB 4 5 5 M18 X18 2 3=([⟨4,⟨0,3⟩⟩],0):=by
    unfold timesB
    rw [if_neg (by omega),if_neg (fun h=>h ⟨by unfold sideP; omega,by unfold sideP; omega⟩),if_neg (fun h=>h rfl)]
    have:=times_whole (r:=4) (p:=2) (q:=3) (by omega) M18_canon X18_ok rfl (by unfold sideP; omega) (by unfold sideP; omega)
    refine this.trans ?_
    decide +kernel
  rw [et]
  have ec:cutG 5 5 M18 2 2 1 0=builtS 3 2 [⟨2,1,7⟩]:=by decide +kernel
  have es:sliceS ⟨3,[⟨1,9⟩]⟩ 5 2 3 1 2=⟨2,[⟨0,9⟩]⟩:=by decide +kernel
  rw [ec,es]
  exact ifP_pos rfl (ifP_pos rfl (ifP_pos rfl (ifP_pos rfl (ifP_pos rfl (ifP_pos rfl (ifP_pos rfl (ref09_Same_ok (by decide) (ifP_pos rfl (ifP_pos rfl (ifP_pos rfl (ifP_pos rfl (ifP_pos rfl (idxP_intro (by decide) rfl hQ)))))))))))))
end Go.Proofs.YtpackolbhcmomaaGreat
