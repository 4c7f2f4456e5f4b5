import Derived.Test.YtpackolbhcmomaaGreatCsrF
namespace Go.Proofs.YtpackolbhcmomaaGreat
open Go Go.Fw
set_option linter.unusedVariables false
set_option linter.unusedSimpArgs false
def key (t:Triple):Key:=(t.Row,t.Col)
def Srt (ts:List Triple):Prop:=ts.Pairwise fun a b=>ltK (key a) (key b)
structure Canon (rows cols:Int) (ts:List Triple):Prop where
  r0:0≤rows
  r1:rows≤4096
  c0:0≤cols
  c1:cols≤4096
  len:ts.length≤65536
  srt:Srt ts
  inn:∀ t∈ts,inT rows cols t
theorem mono_count {α:Type} {q:α→Bool}:∀ {l:List α},l.Pairwise (fun a b=>q b=true→q a=true)→∀ (i:Nat) (h:i<l.length),(q l[i]=true↔i<l.countP q)
  | [],_,i,h=>by simp at h
  | a :: l,hp,i,h=>by
    rw [List.pairwise_cons] at hp
    rw [List.countP_cons]
    by_cases ha:q a=true
    · rw [if_pos ha]
      cases i with
      | zero=>simp [ha]
      | succ i=>
        have:=mono_count hp.2 i (by simpa using h)
        simp only [List.getElem_cons_succ]
        rw [this]; omega
    · rw [if_neg ha]
      have hz:l.countP q=0:=List.countP_eq_zero.2 fun b hb h'=>ha (hp.1 b hb h')
      rw [hz]
      refine ⟨fun h'=>absurd ?_ ha,fun h=>by omega⟩
      cases i with
      | zero=>exact h'
      | succ i=>exact hp.1 _ (List.getElem_mem _) h'
theorem Srt.row {ts:List Triple} (h:Srt ts) (v:Nat) (p:Nat) (hp:p<ts.length):ts[p].Row<v↔(p:Int)<below ts v:=by
  have:=mono_count (q:=fun t:Triple=>decide (t.Row<(v:Int))) (l:=ts) (List.Pairwise.imp (fun {a b} hab=>by
    simp only [decide_eq_true_eq]
    unfold ltK key at hab
    simp only at hab
    omega) h) p hp
  simp only [decide_eq_true_eq] at this
  rw [this]; unfold below; omega
theorem at0_rm {f:Nat→Int} {n:Nat} {i:Int} (h0:0≤i) (h:i<n):at0 ((List.range n).map f) i=f i.toNat:=by
  unfold at0
  rw [List.getD_eq_getElem?_getD,rm_get (by omega)]; rfl
theorem at0_map {α:Type} {f:α→Int} {xs:List α} {i:Int} (h0:0≤i) (h:i<xs.length):at0 (xs.map f) i=f (xs[i.toNat]'(by omega)):=by
  unfold at0
  simp [List.getD_eq_getElem?_getD,show i.toNat<xs.length by omega]
theorem start_at {rows cols:Int} {ts:List Triple} {i:Int} (h0:0≤i) (h:i≤rows):at0 (builtS rows cols ts).Start i=below ts i.toNat:=at0_rm h0 (by omega)
theorem below_all {rows cols:Int} {ts:List Triple} (h:Canon rows cols ts):below ts rows.toNat=ts.length:=by
  have h0:=h.r0
  unfold below
  rw [List.countP_eq_length.2]
  intro t ht
  have:=h.inn t ht
  unfold inT at this
  simp; omega
theorem below_zero {ts:List Triple} (h:∀ t∈ts,0≤t.Row):below ts 0=0:=by
  unfold below
  rw [List.countP_eq_zero.2]; · rfl
  intro t ht
  have:=h t ht
  simp; omega
theorem Srt.at {ts:List Triple} (h:Srt ts) {i p:Nat} (hp:p<ts.length):ts[p].Row=i↔below ts i≤p∧(p:Int)<below ts (i+1):=by
  have h1:=h.row i p hp
  have h2:=h.row (i+1) p hp
  omega
theorem Canon.right {rows cols:Int} {ts:List Triple} (h:Canon rows cols ts):RightP (builtS rows cols ts) where
  r0:=h.r0
  r1:=h.r1
  c0:=h.c0
  c1:=h.c1
  sl:=by have:=h.r0; simp [builtS]; omega
  vl:=by simp [builtS]
  cl:=by simpa [builtS] using h.len
  s0:=by
    have:=h.r0
    rw [start_at (by omega) (by omega)]
    exact below_zero fun t ht=>(h.inn t ht).1
  sn:=by
    have:=h.r0
    show at0 (builtS rows cols ts).Start rows=_
    rw [start_at (by omega) (by omega),below_all h]; simp [builtS]
  up i hi:=by
    have hi:(i:Int)<rows:=hi
    rw [start_at (by omega) (by omega),start_at (by omega) (by omega)]
    have e1:((i:Int)).toNat=i:=by omega
    have e2:((i:Int)+1).toNat=i+1:=by omega
    rw [e1,e2,below_succ i ts fun t ht=>(h.inn t ht).1]
    have:=atRow_le ts (i+1)
    omega
  row i hi:=by
    have hi:(i:Int)<rows:=hi
    intro j hj1 hj2
    rw [start_at (by omega) (by omega)] at hj1 hj2 ⊢
    have e1:((i:Int)).toNat=i:=by omega
    have e2:((i:Int)+1).toNat=i+1:=by omega
    rw [e1] at hj1 ⊢
    rw [e2] at hj2
    have hb:=below_le ts (i+1)
    have hjl:j<ts.length:=by omega
    have hc:at0 (builtS rows cols ts).Col j=ts[j].Col:=by
      show at0 (ts.map (·.Col)) j=_
      rw [at0_map (by omega) (by omega)]; rfl
    have hin:=h.inn _ (List.getElem_mem hjl)
    have hr:=(h.srt.at hjl (i:=i)).2 ⟨hj1,hj2⟩
    unfold inT at hin
    refine ⟨by rw [hc]; omega,by rw [hc]; exact hin.2.2.2,fun hlt=>?_⟩
    obtain ⟨q,rfl⟩:∃ q,j=q+1:=⟨j - 1,by have:=below_le ts i; omega⟩
    have hc2:at0 (builtS rows cols ts).Col (((q+1:Nat):Int) - 1)=ts[q].Col:=by
      show at0 (ts.map (·.Col)) _=_
      rw [at0_map (by omega) (by omega)]
      simp
    have hr2:=(h.srt.at (show q<ts.length by omega) (i:=i)).2 ⟨by omega,by omega⟩
    have hs:=List.pairwise_iff_getElem.1 h.srt q (q+1) (by omega) hjl (by omega)
    unfold ltK key at hs
    simp only at hs
    rw [hc,hc2]; omega
theorem countP_lt (s:Int) (h0:0≤s):∀ n:Nat,s≤n→(((List.range n).countP (fun p:Nat=>decide ((p:Int)<s)):Nat):Int)=s
  | 0,h=>by simp; omega
  | n+1,h=>by
    rw [List.range_succ,List.countP_append,List.countP_singleton]
    by_cases e:s≤n
    · rw [if_neg (by simp; omega)]
      have:=countP_lt s h0 n e
      omega
    · have hs:s=n+1:=by omega
      subst hs
      rw [if_pos (by simp; omega),List.countP_eq_length.2 (by simp; omega)]
      simp
theorem map_at0 (xs:List Int) (n:Nat) (h:xs.length=n):(List.range n).map (fun p:Nat=>at0 xs p)=xs:=by
  subst h
  apply List.ext_getElem?
  intro i
  by_cases h:i<xs.length
  · rw [rm_get h]; unfold at0; simp [List.getD_eq_getElem?_getD,h]
  · rw [List.getElem?_eq_none (by simp; omega),List.getElem?_eq_none (by omega)]
def rowOf (a:Rows) (p:Nat):Int:=(((List.range a.Rows.toNat).countP (fun i:Nat=>decide (at0 a.Start ((i:Int)+1)≤p)):Nat):Int)
def trip (a:Rows):List Triple:=(List.range a.Col.length).map fun p=>⟨rowOf a p,at0 a.Col p,at0 a.Val p⟩
theorem rowOf_lt {a:Rows} (h:RightP a) (p v:Nat) (hv:(v:Int)≤a.Rows):rowOf a p<v↔(p:Int)<at0 a.Start v:=by
  obtain ⟨n,hn⟩:∃ n:Nat,a.Rows=n:=⟨a.Rows.toNat,by have:=h.r0; omega⟩
  cases v with
  | zero=>have:=h.s0; unfold rowOf; simp only [Int.ofNat_zero] at *; rw [this]; omega
  | succ v=>
    have hup:∀ i:Nat,i<n→at0 a.Start i≤at0 a.Start ((i:Int)+1):=fun i hi=>h.up i (by omega)
    have hm:=mono_count (q:=fun i:Nat=>decide (at0 a.Start ((i:Int)+1)≤p)) (l:=List.range n) (by
      rw [List.pairwise_iff_getElem]
      intro i j hi hj hij
      simp only [List.getElem_range,decide_eq_true_eq]
      intro hh
      simp at hj
      have:=up_le hup (i:=i+1) (j:=j+1) (by omega) (by omega)
      have e1:((i+1:Nat):Int)=(i:Int)+1:=by omega
      have e2:((j+1:Nat):Int)=(j:Int)+1:=by omega
      rw [e1,e2] at this; omega) v (by simp; omega)
    simp only [List.getElem_range,decide_eq_true_eq] at hm
    unfold rowOf
    rw [hn,Int.toNat_natCast]
    have e2:((v+1:Nat):Int)=(v:Int)+1:=by omega
    rw [e2]
    omega
theorem rise {a:Rows} (h:RightP a) {i p q:Nat} (hi:(i:Int)<a.Rows) (h1:at0 a.Start i≤p) (h2:(q:Int)<at0 a.Start ((i:Int)+1)) (hpq:p<q):at0 a.Col p<at0 a.Col q:=by
  induction q with
  | zero=>omega
  | succ q ih=>
    have:=(h.row i hi (q+1) (by omega) h2).2.2 (by omega)
    rw [show ((q+1:Nat):Int) - 1=q by omega] at this
    by_cases e:p=q
    · subst e; exact this
    · have:=ih (by omega) (by omega); omega
theorem RightP.canon {a:Rows} (h:RightP a):Canon a.Rows a.Cols (trip a)∧a=builtS a.Rows a.Cols (trip a):=by
  obtain ⟨n,hn⟩:∃ n:Nat,a.Rows=n:=⟨a.Rows.toNat,by have:=h.r0; omega⟩
  have hlt:∀ p:Nat,p<a.Col.length→rowOf a p<n:=fun p hp=>by
    have:=(rowOf_lt h p n (by omega)).2 (by have:=h.sn; rw [hn] at this; omega)
    exact this
  have hst:∀ (p i:Nat),p<a.Col.length→rowOf a p=i→at0 a.Start i≤p∧(p:Int)<at0 a.Start ((i:Int)+1):=fun p i hp e=>by
    have h0:=hlt p hp
    have h1:=rowOf_lt h p i (by omega)
    have h2:=rowOf_lt h p (i+1) (by omega)
    rw [show ((i+1:Nat):Int)=(i:Int)+1 by omega] at h2
    omega
  have hpos:∀ p,∃ i:Nat,rowOf a p=i:=fun p=>⟨_,rfl⟩
  refine ⟨⟨h.r0,h.r1,h.c0,h.c1,by simpa [trip] using h.cl,?_,?_⟩,?_⟩
  · unfold Srt trip
    rw [List.pairwise_map,List.pairwise_iff_getElem]
    intro i j hi hj hij
    have hi:i<a.Col.length:=by simpa using hi
    have hj:j<a.Col.length:=by simpa using hj
    simp only [List.getElem_range]
    obtain ⟨ri,hri⟩:=hpos i
    obtain ⟨rj,hrj⟩:=hpos j
    have h1:=hst i ri hi hri
    have h2:=hst j rj hj hrj
    have hri':=hlt i hi
    have hrj':=hlt j hj
    have hle:ri≤rj:=by
      have:=rowOf_lt h i (rj+1) (by omega)
      rw [show ((rj+1:Nat):Int)=(rj:Int)+1 by omega] at this
      omega
    unfold ltK key
    simp only
    rw [hri,hrj]
    by_cases e:ri=rj
    · subst e
      exact .inr ⟨rfl,rise h (by omega) h1.1 h2.2 hij⟩
    · left; omega
  · intro t ht
    obtain ⟨p,hp,rfl⟩:=List.mem_map.1 ht
    simp only [List.mem_range] at hp
    obtain ⟨r,hr⟩:=hpos p
    have h0:=hlt p hp
    have h1:=hst p r hp hr
    have h2:=h.row r (by omega) p h1.1 h1.2
    unfold inT
    simp only
    omega
  · rw [rows_eq]
    refine ⟨rfl,rfl,?_,?_,?_⟩
    · unfold builtS
      simp only
      have hl:=h.sl
      have hb:∀ v:Nat,v<n+1→below (trip a) v=at0 a.Start v:=by
        intro v hv
        unfold below trip
        rw [List.countP_map]
        have h1:0≤at0 a.Start v:=by
          have:=up_le (n:=n) (fun i hi=>h.up i (by omega)) (i:=0) (j:=v) (by omega) (by omega)
          have h0:=h.s0
          rw [show ((0:Nat):Int)=0 from rfl,h0] at this; exact this
        have h2:at0 a.Start v≤a.Col.length:=by
          have:=up_le (n:=n) (fun i hi=>h.up i (by omega)) (i:=v) (j:=n) (by omega) (by omega)
          have h0:=h.sn
          rw [hn] at h0; rw [h0] at this; exact this
        refine Eq.trans ?_ (countP_lt (at0 a.Start v) h1 a.Col.length h2)
        congr 1
        apply List.countP_congr
        intro p hp
        simp only [Function.comp_apply,decide_eq_true_eq]
        exact rowOf_lt h p v (by omega)
      rw [show a.Rows.toNat+1=n+1 by omega,rm_congr hb,map_at0 a.Start (n+1) (by omega)]
    · unfold builtS trip
      simp only [List.map_map]
      exact (map_at0 a.Col _ rfl).symm
    · unfold builtS trip
      simp only [List.map_map]
      exact (map_at0 a.Val _ h.vl).symm
theorem canon_empty:Canon 0 0 []:=⟨by omega,by omega,by omega,by omega,by simp,.nil,by simp⟩
noncomputable def sureS (a:Rows):Rows:=if RightP a then a else builtS 0 0 []
theorem sure_ok {a:Rows} {Q:Rows→Prop} (hl:small a) (hQ:Q (sureS a)):csr_sure a Q:=by
  unfold csr_sure csr_empty
  unfold sureS at hQ
  refine right_ok hl (ifP_dec (fun h=>?_) (fun h=>?_))
  · rwa [if_pos h] at hQ
  · rw [if_neg h] at hQ
    exact ⟨by decide,by decide,hQ⟩
theorem ref_sure_ok {a:Rows} {Q:Rows→Prop} (hl:small a) (hQ:Q (sureS a)):ref07_Sure a Q:=by
  unfold ref07_Sure ref07_Empty
  unfold sureS at hQ
  refine ref_right_ok hl (ifP_dec (fun h=>?_) (fun h=>?_))
  · rwa [if_pos h] at hQ
  · rw [if_neg h] at hQ
    exact ⟨by decide,by decide,hQ⟩
def segS (ts:List Triple) (i:Nat):List Triple:=ts.filter fun t=>decide (t.Row=i)
theorem seg_eq {ts:List Triple} (h:Srt ts) (i:Nat) {lo hi:Nat} (hlo:below ts i=lo) (hhi:below ts (i+1)=hi) (hle:lo≤hi) (hl:hi≤ts.length):(ts.take hi).drop lo=segS ts i:=by
  have e:ts=ts.take lo++((ts.take hi).drop lo++ts.drop hi):=by
    have h1:ts.take lo=(ts.take hi).take lo:=by rw [List.take_take,Nat.min_eq_left hle]
    rw [←List.append_assoc,h1,List.take_append_drop,List.take_append_drop]
  have hr:∀ (p:Nat) (hp:p<ts.length),ts[p].Row=i↔lo≤p∧p<hi:=fun p hp=>by have:=h.at (i:=i) hp; omega
  unfold segS
  conv=>rhs; rw [e]
  rw [List.filter_append,List.filter_append,List.filter_eq_nil_iff.2,List.filter_eq_self.2,List.filter_eq_nil_iff.2]
  · simp
  · intro t ht
    obtain ⟨j,hj,rfl⟩:=List.getElem_of_mem ht
    simp only [List.getElem_drop,decide_eq_true_eq]
    rw [hr]; omega
  · intro t ht
    obtain ⟨j,hj,rfl⟩:=List.getElem_of_mem ht
    simp only [List.getElem_drop,List.getElem_take,decide_eq_true_eq]
    simp only [List.length_drop,List.length_take] at hj
    rw [hr]; omega
  · intro t ht
    obtain ⟨j,hj,rfl⟩:=List.getElem_of_mem ht
    simp only [List.getElem_take,decide_eq_true_eq]
    simp only [List.length_take] at hj
    rw [hr]; omega
structure Seg (ts:List Triple) (i l u:Nat):Prop where
  lo:below ts i=l
  hi:below ts (i+1)=u
  le:l≤u
  len:u≤ts.length
  eq:(ts.take u).drop l=segS ts i
  row:∀ (p:Nat) (hp:p<ts.length),l≤p→p<u→ts[p].Row=i
theorem Canon.seg {rows cols:Int} {ts:List Triple} (h:Canon rows cols ts) (i:Nat):∃ lo hi,Seg ts i lo hi:=by
  have hs:=below_succ i ts fun t ht=>(h.inn t ht).1
  have ha:=atRow_le ts (i+1)
  have hb:=below_le ts (i+1)
  obtain ⟨lo,hlo⟩:∃ lo:Nat,below ts i=lo:=⟨_,rfl⟩
  obtain ⟨hi,hhi⟩:∃ hi:Nat,below ts (i+1)=hi:=⟨_,rfl⟩
  exact ⟨lo,hi,hlo,hhi,by omega,by omega,seg_eq h.srt i hlo hhi (by omega) (by omega),fun p hp h1 h2=>by have:=h.srt.at (i:=i) hp; omega⟩
theorem Canon.sml {rows cols:Int} {ts:List Triple} (h:Canon rows cols ts):small (builtS rows cols ts):=by
  have:=h.r0; have:=h.r1; have:=h.len
  unfold small builtS; simp; omega
theorem start_idx {rows cols:Int} {ts:List Triple} {i:Nat} {K:Int→Prop} (h:(i:Int)≤rows) (hk:K (below ts i)):idxP (builtS rows cols ts).Start (i:Int) K:=
  idxP_intro (by omega) (rm_get (by simp; omega)) hk
theorem part_ok {rows cols:Int} {ts:List Triple} {i:Nat} {Q:List Int×List Int→Prop} (h:Canon rows cols ts) (hi:(i:Int)<rows) (hQ:Q ((segS ts i).map (·.Col),(segS ts i).map (·.Val))):csr_part (builtS rows cols ts) i Q:=by
  unfold csr_part
  have hr:=h.r1
  obtain ⟨lo,hi',s⟩:=h.seg i
  have e1:w64 ((i:Int)+1)=(i+1:Nat):=by rw [w64_id (by omega) (by omega)]; omega
  rw [e1]
  refine start_idx (by omega) (start_idx (by omega) ?_)
  rw [s.lo,s.hi]
  have h1:=s.le; have h2:=s.len
  have hc:(builtS rows cols ts).Col.length=ts.length:=by simp [builtS]
  have hv:(builtS rows cols ts).Val.length=ts.length:=by simp [builtS]
  refine ⟨by omega,by omega,by omega,by omega,by omega,by omega,?_⟩
  simp only [Int.toNat_natCast,builtS,←List.map_take,←List.map_drop,s.eq]
  exact hQ
def itS (t:Triple):Item:=⟨t.Col,t.Val⟩
def rowS (rows:Int) (ts:List Triple) (i:Int):List Item:=if 0≤i∧i<rows then (segS ts i.toNat).map itS else []
theorem seg_len_le (ts:List Triple) (i:Nat):(segS ts i).length≤ts.length:=List.length_filter_le _ _
theorem csr_row_ok {a:Rows} {rows cols i:Int} {ts:List Triple} {Q:List Item→Prop} (hl:small a) (ha:sureS a=builtS rows cols ts) (h:Canon rows cols ts) (hQ:Q (rowS rows ts i)):csr_Row a i Q:=by
  unfold csr_Row
  have hr0:=h.r0; have hr1:=h.r1; have hlen:=h.len
  refine sure_ok hl ?_
  rw [ha]
  have e:w64 ((builtS rows cols ts).Rows - 1)=rows - 1:=w64_id (by show -9223372036854775808≤rows - 1; omega) (by show rows - 1≤9223372036854775807; omega)
  rw [e]
  unfold rowS at hQ
  refine within_ok (ifP_not (fun hn=>?_) (fun hy=>?_))
  · have hn:¬(0≤i∧i≤rows - 1):=by simpa using hn
    rw [if_neg (by omega)] at hQ; exact hQ
  have hy:0≤i∧i≤rows - 1:=by simpa using hy
  rw [if_pos (by omega)] at hQ
  obtain ⟨n,rfl⟩:∃ n:Nat,i=n:=⟨i.toNat,by omega⟩
  rw [Int.toNat_natCast] at hQ
  refine part_ok h (by omega) ?_
  have hs:=seg_len_le ts n
  generalize segS ts n=xs at hQ hs
  refine range_intro (fun (s:List Item) i=>(s,i)) 0 xs.length (by omega) (fun i s=>s=(xs.take i).map itS) (by omega) rfl (fun i s next _ hi hm hn=>?_) (fun s next hm=>?_)
  · subst hm
    dsimp only
    refine ifP_dec (fun _=>?_) (fun h=>by simp at h; omega)
    refine idxP_intro (by omega) (x:=xs[i].Col) (by simp [hi]) (idxP_intro (by omega) (x:=xs[i].Val) (by simp [hi]) (appP_intro ?_ (hn _ ?_)))
    · simp; omega
    · rw [take_map hi]; rfl
  · subst hm
    dsimp only
    refine ifP_dec (fun h=>by simp at h) (fun _=>?_)
    rw [List.take_length]; exact hQ
theorem ext_step {ts:List Triple} {lo p:Nat} (h1:lo≤p) (h2:p<ts.length):(ts.take (p+1)).drop lo=(ts.take p).drop lo++[ts[p]]:=by
  rw [List.take_succ_eq_append_getElem h2,List.drop_append_of_le_length (by simp; omega)]
theorem ref_row_ok {a:Rows} {rows cols i:Int} {ts:List Triple} {Q:List Item→Prop} (hl:small a) (ha:sureS a=builtS rows cols ts) (h:Canon rows cols ts) (hQ:Q (rowS rows ts i)):ref07_Row a i Q:=by
  unfold ref07_Row
  have hr0:=h.r0; have hr1:=h.r1; have hlen:=h.len
  refine ref_sure_ok hl ?_
  rw [ha]
  unfold rowS at hQ
  refine ifP_dec (fun hn=>?_) (fun h1=>ifP_dec (fun (hn:rows≤i)=>?_) (fun (h2:¬rows≤i)=>?_))
  · rw [if_neg (by omega)] at hQ; exact hQ
  · rw [if_neg (by omega)] at hQ; exact hQ
  rw [if_pos (by omega)] at hQ
  obtain ⟨n,rfl⟩:∃ n:Nat,i=n:=⟨i.toNat,by omega⟩
  rw [Int.toNat_natCast] at hQ
  obtain ⟨lo,hi',s⟩:=h.seg n
  have e1:w64 ((n:Int)+1)=(n+1:Nat):=by rw [w64_id (by omega) (by omega)]; omega
  rw [e1]
  refine start_idx (by omega) ?_
  rw [s.lo]
  have g1:=s.le; have g2:=s.len
  refine range_intro (fun (s:List Item) i=>(s,i)) lo hi' (by omega) (fun p st=>st=((ts.take p).drop lo).map itS) (by omega) (s0:=[]) (by simp) (fun p st next hp1 hp2 hm hn=>?_) (fun st next hm=>?_)
  · subst hm
    dsimp only
    refine start_idx (by omega) ?_
    rw [s.hi]
    have hpl:p<ts.length:=by omega
    refine ifP_dec (fun _=>?_) (fun h=>by omega)
    refine idxP_intro (by omega) (x:=ts[p].Col) (by simp [builtS,hpl]) (idxP_intro (by omega) (x:=ts[p].Val) (by simp [builtS,hpl]) (appP_intro ?_ (hn _ ?_)))
    · simp; omega
    · rw [ext_step hp1 hpl,List.map_append]; rfl
  · subst hm
    dsimp only
    refine start_idx (by omega) ?_
    rw [s.hi]
    refine ifP_dec (fun h=>by omega) (fun _=>?_)
    rw [s.eq]; exact hQ
theorem csr_triples_ok {a:Rows} {rows cols:Int} {ts:List Triple} {Q:List Triple→Prop} (hl:small a) (ha:sureS a=builtS rows cols ts) (h:Canon rows cols ts) (hQ:Q ts):csr_Triples a Q:=by
  unfold csr_Triples
  have hr0:=h.r0; have hr1:=h.r1; have hlen:=h.len
  refine sure_ok hl ?_
  rw [ha]
  obtain ⟨n,hn⟩:∃ n:Nat,rows=n:=⟨rows.toNat,by omega⟩
  have hrw:(builtS rows cols ts).Rows=n:=hn
  rw [hrw]
  refine range_intro (fun (s:List Triple) i=>(s,i)) 0 n (by omega) (fun i s=>s=ts.take (below ts i).toNat) (by omega) (s0:=[]) (by rw [below_zero fun t ht=>(h.inn t ht).1]; rfl) (fun i s next _ hi hm hnx=>?_) (fun s next hm=>?_)
  · subst hm
    dsimp only
    refine ifP_dec (fun _=>?_) (fun h=>by omega)
    refine part_ok h (by omega) ?_
    obtain ⟨lo,hi',s⟩:=h.seg i
    have g1:=s.le; have g2:=s.len
    rw [s.lo,Int.toNat_natCast]
    have hsl:(segS ts i).length=hi' - lo:=by rw [←s.eq]; simp; omega
    have hgt:∀ (j:Nat) (hj:j<(segS ts i).length),(segS ts i)[j]=ts[lo+j]'(by omega):=fun j hj=>by simp [←s.eq]
    refine range_intro (fun (s:List Triple) i=>(s,i)) 0 (segS ts i).length (by omega) (fun j st=>st=ts.take (lo+j)) (by omega) (by simp) (fun j st nx _ hj hm hnj=>?_) (fun st nx hm=>?_)
    · subst hm
      dsimp only
      refine ifP_dec (fun _=>?_) (fun h=>by simp at h; omega)
      have hpl:lo+j<ts.length:=by omega
      refine idxP_intro (by omega) (x:=ts[lo+j].Col) (by simp [hj,hgt]) (idxP_intro (by omega) (x:=ts[lo+j].Val) (by simp [hj,hgt]) (appP_intro ?_ (hnj _ ?_)))
      · simp; omega
      · rw [show lo+(j+1)=lo+j+1 by omega,List.take_succ_eq_append_getElem hpl]
        congr 2
        have:=s.row (lo+j) hpl (by omega) (by omega)
        rw [←this]
    · subst hm
      dsimp only
      refine ifP_dec (fun h=>by simp at h) (fun _=>hnx _ ?_)
      rw [s.hi,hsl,Int.toNat_natCast]; congr 1; omega
  · subst hm
    dsimp only
    refine ifP_dec (fun h=>by omega) (fun _=>?_)
    have hb:=below_all h
    rw [hn,Int.toNat_natCast] at hb
    rw [hb,Int.toNat_natCast,List.take_length]; exact hQ
theorem ref_triples_ok {a:Rows} {rows cols:Int} {ts:List Triple} {Q:List Triple→Prop} (hl:small a) (ha:sureS a=builtS rows cols ts) (h:Canon rows cols ts) (hQ:Q ts):ref07_Triples a Q:=by
  unfold ref07_Triples
  have hr0:=h.r0; have hr1:=h.r1; have hlen:=h.len
  refine ref_sure_ok hl ?_
  rw [ha]
  obtain ⟨n,hn⟩:∃ n:Nat,rows=n:=⟨rows.toNat,by omega⟩
  have hrw:(builtS rows cols ts).Rows=n:=hn
  rw [hrw]
  refine range_intro (fun (s:List Triple) i=>(s,i)) 0 n (by omega) (fun i s=>s=ts.take (below ts i).toNat) (by omega) (s0:=[]) (by rw [below_zero fun t ht=>(h.inn t ht).1]; rfl) (fun i s next _ hi hm hnx=>?_) (fun s next hm=>?_)
  · subst hm
    dsimp only
    refine ifP_dec (fun _=>?_) (fun h=>by omega)
    obtain ⟨lo,hi',s⟩:=h.seg i
    have g1:=s.le; have g2:=s.len
    have e1:w64 ((i:Int)+1)=(i+1:Nat):=by rw [w64_id (by omega) (by omega)]; omega
    rw [e1] at hnx ⊢
    refine start_idx (by omega) ?_
    rw [s.lo,Int.toNat_natCast]
    refine range_intro (fun (s:List Triple) i=>(s,i)) lo hi' (by omega) (fun p st=>st=ts.take p) (by omega) rfl (fun p st nx hp1 hp2 hm hnj=>?_) (fun st nx hm=>?_)
    · subst hm
      dsimp only
      refine start_idx (by omega) ?_
      rw [s.hi]
      have hpl:p<ts.length:=by omega
      refine ifP_dec (fun _=>?_) (fun h=>by omega)
      refine idxP_intro (by omega) (x:=ts[p].Col) (by simp [builtS,hpl]) (idxP_intro (by omega) (x:=ts[p].Val) (by simp [builtS,hpl]) (appP_intro ?_ (hnj _ ?_)))
      · simp; omega
      · rw [List.take_succ_eq_append_getElem hpl]
        congr 2
        have:=s.row p hpl (by omega) (by omega)
        rw [←this]
    · subst hm
      dsimp only
      refine start_idx (by omega) ?_
      rw [s.hi]
      refine ifP_dec (fun h=>by omega) (fun _=>hnx _ ?_)
      rw [s.hi,Int.toNat_natCast]
  · subst hm
    dsimp only
    refine ifP_dec (fun h=>by omega) (fun _=>?_)
    have hb:=below_all h
    rw [hn,Int.toNat_natCast] at hb
    rw [hb,Int.toNat_natCast,List.take_length]; exact hQ
theorem Srt.nodup {l:List Triple} (h:Srt l):l.Nodup:=by
  rw [List.nodup_iff_pairwise_ne]
  exact List.Pairwise.imp (R:=fun a b=>ltK (key a) (key b)) (fun {a b} hab (e:a=b)=>ltK_irrefl (key b) (by rw [e] at hab; exact hab)) h
theorem srt_ext {l l':List Triple} (h:Srt l) (h':Srt l') (he:∀ t,t∈l↔t∈l'):l=l':=
  sorted_eq ((List.perm_ext_iff_of_nodup h.nodup h'.nodup).2 he) h h' fun a b _ _ h1 h2=>absurd (ltK_trans h1 h2) (ltK_irrefl _)
theorem sure_built {rows cols:Int} {ts:List Triple} (h:Canon rows cols ts):sureS (builtS rows cols ts)=builtS rows cols ts:=by
  unfold sureS; rw [if_pos h.right]
def flip (t:Triple):Triple:=⟨t.Col,t.Row,t.Val⟩
def turnT (cols:Int) (ts:List Triple):List Triple:=(List.range cols.toNat).flatMap fun c:Nat=>(ts.filter fun t:Triple=>decide (t.Col=(c:Int))).map flip
theorem turn_mem {rows cols:Int} {ts:List Triple} (h:Canon rows cols ts) (t:Triple):t∈turnT cols ts↔flip t∈ts:=by
  unfold turnT
  simp only [List.mem_flatMap,List.mem_range,List.mem_map,List.mem_filter,decide_eq_true_eq]
  constructor
  · rintro ⟨c,hc,u,⟨hu,_⟩,rfl⟩; exact hu
  · intro ht
    have:=h.inn _ ht
    unfold inT flip at this
    simp only at this
    exact ⟨t.Row.toNat,by omega,flip t,⟨ht,by show t.Row=_; omega⟩,rfl⟩
theorem turn_srt {ts:List Triple} (cols:Int) (h:Srt ts):Srt (turnT cols ts):=by
  unfold Srt turnT
  rw [List.pairwise_flatMap]
  refine ⟨fun c _=>?_,?_⟩
  · rw [List.pairwise_map]
    refine List.Pairwise.imp_of_mem (fun {a b} ha hb hab=>?_) (List.Pairwise.filter (R:=fun a b=>ltK (key a) (key b)) (fun t=>decide (t.Col=(c:Int))) h)
    have h1:=(List.mem_filter.1 ha).2
    have h2:=(List.mem_filter.1 hb).2
    simp only [decide_eq_true_eq] at h1 h2
    unfold ltK key at *
    simp only [flip] at *
    omega
  · refine List.Pairwise.imp (fun {a b} hab x hx y hy=>?_) (List.pairwise_lt_range (n:=cols.toNat))
    obtain ⟨u,hu,rfl⟩:=List.mem_map.1 hx
    obtain ⟨v,hv,rfl⟩:=List.mem_map.1 hy
    have h1:=(List.mem_filter.1 hu).2
    have h2:=(List.mem_filter.1 hv).2
    simp only [decide_eq_true_eq] at h1 h2
    unfold ltK key flip
    simp only
    omega
theorem flip_nodup {ts:List Triple} (h:Srt ts):(ts.map flip).Nodup:=by
  rw [List.nodup_iff_pairwise_ne,List.pairwise_map]
  refine List.Pairwise.imp (R:=fun a b=>ltK (key a) (key b)) (fun {a b} hab e=>?_) h
  have:a=b:=by
    cases a; cases b
    simp only [flip,Triple.mk.injEq] at e ⊢
    omega
  subst this; exact ltK_irrefl _ hab
theorem turn_perm {rows cols:Int} {ts:List Triple} (h:Canon rows cols ts):(ts.map flip).Perm (turnT cols ts):=by
  refine (List.perm_ext_iff_of_nodup (flip_nodup h.srt) (turn_srt cols h.srt).nodup).2 fun t=>?_
  rw [turn_mem h,List.mem_map]
  exact ⟨by rintro ⟨u,hu,rfl⟩; exact hu,fun ht=>⟨flip t,ht,rfl⟩⟩
theorem turn_canon {rows cols:Int} {ts:List Triple} (h:Canon rows cols ts):Canon cols rows (turnT cols ts) where
  r0:=h.c0
  r1:=h.c1
  c0:=h.r0
  c1:=h.r1
  len:=by have:=(turn_perm h).length_eq; have:=h.len; simp at *; omega
  srt:=turn_srt cols h.srt
  inn t ht:=by
    have:=h.inn _ ((turn_mem h t).1 ht)
    unfold inT flip at *
    simp only at this
    omega
theorem csr_turn_ok {a:Rows} {rows cols:Int} {ts:List Triple} {Q:Rows→Prop} (hl:small a) (ha:sureS a=builtS rows cols ts) (h:Canon rows cols ts) (hQ:Q (builtS cols rows (turnT cols ts))):csr_Turn a Q:=by
  unfold csr_Turn
  have hlen:=h.len
  have hc1:=h.c1; have hc0:=h.c0
  refine sure_ok hl ?_
  rw [ha]
  refine csr_triples_ok h.sml (sure_built h) h ?_
  refine range_intro (fun (s:List Triple) i=>(s,i)) 0 ts.length (by omega) (fun i s=>s=(ts.take i).map flip++ts.drop i) (by omega) (by simp) (fun i s next _ hi hm hn=>?_) (fun s next hm=>?_)
  · subst hm
    dsimp only
    have hdr:ts.drop i=ts[i] :: ts.drop (i+1):=List.drop_eq_getElem_cons hi
    have hlen2:((ts.take i).map flip).length=i:=by simp; omega
    have hx:((ts.take i).map flip++ts.drop i)[i]? = some ts[i]:=by rw [List.getElem?_append_right (by omega),hlen2,hdr,Nat.sub_self]; rfl
    refine ifP_dec (fun _=>?_) (fun h=>by omega)
    refine idxP_intro (by omega) (by simpa using hx) (idxP_intro (by omega) (by simpa using hx) (hn _ ?_))
    rw [Int.toNat_natCast,List.set_append,if_neg (by omega),hlen2,Nat.sub_self,hdr,take_map hi,List.append_assoc]; rfl
  · subst hm
    dsimp only
    refine ifP_dec (fun h=>by omega) (fun _=>?_)
    rw [List.take_length,List.drop_length,List.append_nil]
    have hT:=turn_canon h
    refine sort_ok cfT (fun _ _ _=>cfT_ok) cfT_SWO (by simp; omega) (turn_perm h) ?_ ?_
    · exact List.Pairwise.imp (R:=fun a b=>ltK (key a) (key b)) (fun {a b} hab=>(cfT_lt _ _).2 hab) hT.srt
    · refine built_ok (show 0≤cols by omega) (show cols≤1000000 by omega) (by have:=hT.len; omega) (fun t ht=>?_) hQ
      have:=hT.inn t ht
      unfold inT at this
      exact ⟨this.1,this.2.1⟩
theorem ref_turn_ok {a:Rows} {rows cols:Int} {ts:List Triple} {Q:Rows→Prop} (hl:small a) (ha:sureS a=builtS rows cols ts) (h:Canon rows cols ts) (hQ:Q (builtS cols rows (turnT cols ts))):ref07_Turn a Q:=by
  unfold ref07_Turn
  have hlen:=h.len
  have hc1:=h.c1; have hc0:=h.c0
  refine ref_sure_ok hl ?_
  rw [ha]
  refine ref_triples_ok h.sml (sure_built h) h ?_
  obtain ⟨n,hn⟩:∃ n:Nat,cols=n:=⟨cols.toNat,by omega⟩
  have hcl:(builtS rows cols ts).Cols=n:=hn
  have hrl:(builtS rows cols ts).Rows=rows:=rfl
  rw [hcl,hrl]
  have hlen3:∀ i:Nat,(turnT i ts).length≤i*65536:=by
    intro i
    unfold turnT
    rw [Int.toNat_natCast]
    induction i with
    | zero=>simp
    | succ i ih=>
      rw [List.range_succ,List.flatMap_append,List.length_append]
      have:=List.length_filter_le (fun t:Triple=>decide (t.Col=(i:Int))) ts
      simp only [List.flatMap_singleton,List.length_map]
      omega
  refine range_intro (fun (s:List Triple) i=>(s,i)) 0 n (by omega) (fun i s=>s=turnT (i:Int) ts) (by omega) (s0:=[]) rfl (fun i s next _ hi hm hnx=>?_) (fun s next hm=>?_)
  · subst hm
    dsimp only
    refine ifP_dec (fun _=>?_) (fun h=>by omega)
    have hl3:=hlen3 i
    refine range_intro (fun (s:List Triple) i=>(s,i)) 0 ts.length (by omega) (fun j s=>s=turnT (i:Int) ts++((ts.take j).filter fun t:Triple=>decide (t.Col=(i:Int))).map flip) (by omega) (by simp) (fun j s nx _ hj hm hnj=>?_) (fun s nx hm=>?_)
    · subst hm
      dsimp only
      refine ifP_dec (fun _=>?_) (fun h=>by omega)
      have hst:(ts.take (j+1)).filter (fun t:Triple=>decide (t.Col=(i:Int)))=(ts.take j).filter (fun t:Triple=>decide (t.Col=(i:Int)))++if ts[j].Col=(i:Int) then [ts[j]] else []:=by
        rw [List.take_succ_eq_append_getElem hj,List.filter_append,List.filter_cons,List.filter_nil]; simp only [decide_eq_true_eq]
      refine idxP_nat hj (ifP_eq (fun e=>idxP_nat hj (idxP_nat hj (appP_intro ?_ (hnj _ ?_)))) (fun e=>hnj _ ?_))
      · have:=List.length_filter_le (fun t:Triple=>decide (t.Col=(i:Int))) (ts.take j)
        have h4:(ts.take j).length≤ts.length:=by simp; omega
        simp only [List.length_append,List.length_map,List.length_singleton]
        omega
      · rw [hst,if_pos e,List.map_append,List.append_assoc]
        have:(⟨(i:Int),ts[j].Row,ts[j].Val⟩:Triple)=flip ts[j]:=by unfold flip; rw [e]
        rw [this]; rfl
      · rw [hst,if_neg e,List.append_nil]
    · subst hm
      dsimp only
      refine ifP_dec (fun h=>by omega) (fun _=>hnx _ ?_)
      rw [List.take_length]
      unfold turnT
      rw [Int.toNat_natCast,Int.toNat_natCast,List.range_succ,List.flatMap_append]
      simp
  · subst hm
    dsimp only
    refine ifP_dec (fun h=>by omega) (fun _=>?_)
    have hT:=turn_canon h
    rw [hn] at hT hQ
    refine ref_built_ok (by omega) (by omega) (by have:=hT.len; omega) (fun t ht=>?_) hQ
    have:=hT.inn t ht
    unfold inT at this
    exact ⟨this.1,this.2.1⟩
def cLo (l:Int):Int:=if 0 > l then 0 else l
def cHi (h n:Int):Int:=if n<h then n else h
def ext (l h n:Int):Int:=if cLo l<cHi h n then cHi h n - cLo l else 0
def cutT (l h c d:Int) (ts:List Triple):List Triple:=(ts.filter fun t=>decide ((l≤t.Row∧t.Row<h)∧(c≤t.Col∧t.Col<d))).map fun t=>⟨t.Row - l,t.Col - c,t.Val⟩
def cutS (rows cols:Int) (ts:List Triple) (p q:Int×Int):Rows:=builtS (ext p.1 p.2 rows) (ext q.1 q.2 cols) (cutT (cLo p.1) (cHi p.2 rows) (cLo q.1) (cHi q.2 cols) ts)
theorem ext_le (l h n:Int) (hn:0≤n) (h1:n≤4096):0≤ext l h n∧ext l h n≤n∧0≤cLo l∧cHi h n≤n:=by
  unfold ext cLo cHi; (repeat' split) <;> omega
theorem cut_canon {rows cols:Int} {ts:List Triple} (h:Canon rows cols ts) (p q:Int×Int):Canon (ext p.1 p.2 rows) (ext q.1 q.2 cols) (cutT (cLo p.1) (cHi p.2 rows) (cLo q.1) (cHi q.2 cols) ts):=by
  have h1:=ext_le p.1 p.2 rows h.r0 h.r1
  have h2:=ext_le q.1 q.2 cols h.c0 h.c1
  have h3:=h.r1; have h4:=h.c1
  refine ⟨by omega,by omega,by omega,by omega,?_,?_,?_⟩
  · have:=h.len
    unfold cutT
    rw [List.length_map]
    exact Nat.le_trans (List.length_filter_le _ _) this
  · unfold Srt cutT
    rw [List.pairwise_map]
    refine List.Pairwise.imp (fun {a b} hab=>?_) (List.Pairwise.filter (R:=fun a b=>ltK (key a) (key b)) _ h.srt)
    unfold ltK key at *
    simp only at *
    omega
  · intro t ht
    obtain ⟨u,hu,rfl⟩:=List.mem_map.1 ht
    have hc:=(List.mem_filter.1 hu).2
    simp only [decide_eq_true_eq] at hc
    have e1:ext p.1 p.2 rows=cHi p.2 rows - cLo p.1:=by unfold ext; rw [if_pos (by omega)]
    have e2:ext q.1 q.2 cols=cHi q.2 cols - cLo q.1:=by unfold ext; rw [if_pos (by omega)]
    unfold inT
    simp only
    omega
theorem bounds_ok {p:Int×Int} {n:Int} {Q:Int×Int→Prop} (h0:0≤n) (h1:n≤4096) (hQ:Q (cLo p.1,ext p.1 p.2 n)):csr_bounds p n Q:=by
  unfold csr_bounds
  show ifP (decide (cHi p.2 n≤cLo p.1)) (Q (cLo p.1,0)) (Q (cLo p.1,w64 (cHi p.2 n - cLo p.1)))
  have hb:=ext_le p.1 p.2 n h0 h1
  unfold ext at hQ
  refine ifP_dec (fun h=>?_) (fun h=>?_)
  · rwa [if_neg (by omega)] at hQ
  · rw [if_pos (by omega)] at hQ
    rwa [w64_id (by omega) (by omega)]
theorem ref_cut_ok {a:Rows} {rows cols:Int} {ts:List Triple} {p q:Int×Int} {Q:Rows→Prop} (hl:small a) (ha:sureS a=builtS rows cols ts) (h:Canon rows cols ts) (hQ:Q (cutS rows cols ts p q)):ref07_Cut a p q Q:=by
  unfold ref07_Cut
  have hlen:=h.len
  refine ref_sure_ok hl ?_
  rw [ha]
  refine ref_triples_ok h.sml (sure_built h) h ?_
  have hrl:(builtS rows cols ts).Rows=rows:=rfl
  have hcl:(builtS rows cols ts).Cols=cols:=rfl
  rw [hcl,hrl]
  have b1:=ext_le p.1 p.2 rows h.r0 h.r1
  have b2:=ext_le q.1 q.2 cols h.c0 h.c1
  have hr1:=h.r1; have hc1:=h.c1
  have hcan:=cut_canon h p q
  have hbuilt (xs:List Triple) (hxs:cutT (cLo p.1) (cHi p.2 rows) (cLo q.1) (cHi q.2 cols) ts=xs):ref07_built (ext p.1 p.2 rows) (ext q.1 q.2 cols) xs Q:=by
    subst hxs
    refine ref_built_ok (by omega) (by omega) (by have:=hcan.len; omega) (fun t ht=>?_) hQ
    have:=hcan.inn t ht
    unfold inT at this
    exact ⟨this.1,this.2.1⟩
  have hf:∀ x:Int,(if 0 > x then 0 else x)=cLo x:=fun _=>rfl
  have hg:∀ x n:Int,(if n<x then n else x)=cHi x n:=fun _ _=>rfl
  simp only [hf,hg]
  refine range_intro (fun (s:List Triple) i=>(s,i)) 0 ts.length (by omega) (fun i s=>s=cutT (cLo p.1) (cHi p.2 rows) (cLo q.1) (cHi q.2 cols) (ts.take i)) (by omega) (s0:=[]) rfl (fun i s next _ hi hm hn=>?_) (fun s next hm=>?_)
  · subst hm
    dsimp only
    refine ifP_dec (fun _=>?_) (fun h=>by omega)
    have hin:=h.inn _ (List.getElem_mem hi)
    unfold inT at hin
    have hst:cutT (cLo p.1) (cHi p.2 rows) (cLo q.1) (cHi q.2 cols) (ts.take (i+1))=cutT (cLo p.1) (cHi p.2 rows) (cLo q.1) (cHi q.2 cols) (ts.take i)++if (cLo p.1≤ts[i].Row∧ts[i].Row<cHi p.2 rows)∧(cLo q.1≤ts[i].Col∧ts[i].Col<cHi q.2 cols) then [⟨ts[i].Row - cLo p.1,ts[i].Col - cLo q.1,ts[i].Val⟩] else []:=by
      unfold cutT
      rw [List.take_succ_eq_append_getElem hi,List.filter_append,List.filter_cons,List.filter_nil,List.map_append]
      simp only [decide_eq_true_eq]
      congr 1
      split <;> rfl
    refine join_intro (fun b=>b=decide ((cLo p.1≤ts[i].Row∧ts[i].Row<cHi p.2 rows)∧(cLo q.1≤ts[i].Col∧ts[i].Col<cHi q.2 cols))) ?_ fun k hk=>?_
    · rintro _ rfl
      refine ifP_dec (fun hc=>idxP_nat hi (idxP_nat hi (idxP_nat hi (appP_intro ?_ (hn _ ?_))))) (fun hc=>hn _ ?_)
      · have h2:(cutT (cLo p.1) (cHi p.2 rows) (cLo q.1) (cHi q.2 cols) (ts.take i)).length≤ts.length:=by
          unfold cutT
          rw [List.length_map]
          exact Nat.le_trans (List.length_filter_le _ _) (by simp; omega)
        simp only [List.length_singleton]; omega
      · rw [hst,if_pos hc,w64_id (by omega) (by omega),w64_id (by omega) (by omega)]
      · rw [hst,if_neg hc,List.append_nil]
    · refine idxP_nat hi (ifP_dec (fun h1=>idxP_nat hi (ifP_dec (fun h2=>idxP_nat hi (ifP_dec (fun h3=>idxP_nat hi (hk _ ?_)) (fun h3=>hk _ ?_))) (fun h2=>hk _ ?_))) (fun h1=>hk _ ?_))
      · apply decide_eq_decide.2; simp [h1,h2,h3]
      all_goals (symm; apply decide_eq_false; intro hh; omega)
  · subst hm
    dsimp only
    rw [List.take_length]
    refine ifP_dec (fun h=>by omega) (fun _=>?_)
    refine join_intro (fun x=>x=ext p.1 p.2 rows) ?_ fun k hk=>?_
    · rintro _ rfl
      refine join_intro (fun x=>x=ext q.1 q.2 cols) ?_ fun k hk=>?_
      · rintro _ rfl
        refine ifP_eq (fun e=>hbuilt _ ?_) (fun e1=>ifP_eq (fun e=>hbuilt _ ?_) (fun e2=>hbuilt _ rfl))
        · apply List.eq_nil_iff_forall_not_mem.2
          intro t ht
          have:=hcan.inn t ht
          unfold inT at this; omega
        · apply List.eq_nil_iff_forall_not_mem.2
          intro t ht
          have:=hcan.inn t ht
          unfold inT at this; omega
      · refine ifP_dec (fun hh=>hk _ ?_) (fun hh=>hk _ ?_)
        · unfold ext at b2 ⊢; rw [if_pos hh] at b2 ⊢; exact w64_id (by omega) (by omega)
        · unfold ext; rw [if_neg hh]
    · refine ifP_dec (fun hh=>hk _ ?_) (fun hh=>hk _ ?_)
      · unfold ext at b1 ⊢; rw [if_pos hh] at b1 ⊢; exact w64_id (by omega) (by omega)
      · unfold ext; rw [if_neg hh]
end Go.Proofs.YtpackolbhcmomaaGreat
