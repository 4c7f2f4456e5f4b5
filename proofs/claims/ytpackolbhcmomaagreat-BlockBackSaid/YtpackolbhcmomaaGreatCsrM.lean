import Derived.Test.YtpackolbhcmomaaGreatOK
import Derived.Test.YtpackolbhcmomaaGreatCsrF
namespace Go.Proofs.YtpackolbhcmomaaGreat
open Go Go.Fw
set_option linter.unusedVariables false
set_option linter.unusedSimpArgs false
def key (t:Triple):Key:=(t.Row,t.Col)
def Srt (ts:List Triple):Prop:=ts.Pairwise fun a b=>ltK (key a) (key b)
structure Canon (rows cols:Int) (ts:List Triple):Prop where
  r0:0≤rows
  r1:rows≤4096
  c0:0≤cols
  c1:cols≤4096
  len:ts.length≤65536
  srt:Srt ts
  inn:∀ t∈ts,inT rows cols t
theorem mono_count {α:Type} {q:α→Bool}:∀ {l:List α},l.Pairwise (fun a b=>q b=true→q a=true)→∀ (i:Nat) (h:i<l.length),(q l[i]=true↔i<l.countP q)
  | [],_,i,h=>by simp at h
  | a :: l,hp,i,h=>by
    rw [List.pairwise_cons] at hp
    rw [List.countP_cons]
    by_cases ha:q a=true
    · rw [if_pos ha]
      cases i with
      | zero=>simp [ha]
      | succ i=>
        have:=mono_count hp.2 i (by simpa using h)
        simp only [List.getElem_cons_succ]
        rw [this]; omega
    · rw [if_neg ha]
      have hz:l.countP q=0:=List.countP_eq_zero.2 fun b hb h'=>ha (hp.1 b hb h')
      rw [hz]
      refine ⟨fun h'=>absurd ?_ ha,fun h=>by omega⟩
      cases i with
      | zero=>exact h'
      | succ i=>exact hp.1 _ (List.getElem_mem _) h'
theorem Srt.row {ts:List Triple} (h:Srt ts) (v:Nat) (p:Nat) (hp:p<ts.length):ts[p].Row<v↔(p:Int)<below ts v:=by
  have:=mono_count (q:=fun t:Triple=>decide (t.Row<(v:Int))) (l:=ts) (List.Pairwise.imp (fun {a b} hab=>by
    simp only [decide_eq_true_eq]
    unfold ltK key at hab
    simp only at hab
    omega) h) p hp
  simp only [decide_eq_true_eq] at this
  rw [this]; unfold below; omega
theorem at0_rm {f:Nat→Int} {n:Nat} {i:Int} (h0:0≤i) (h:i<n):at0 ((List.range n).map f) i=f i.toNat:=by
  unfold at0
  rw [List.getD_eq_getElem?_getD,rm_get (by omega)]; rfl
theorem at0_map {α:Type} {f:α→Int} {xs:List α} {i:Int} (h0:0≤i) (h:i<xs.length):at0 (xs.map f) i=f (xs[i.toNat]'(by omega)):=by
  unfold at0
  simp [List.getD_eq_getElem?_getD,show i.toNat<xs.length by omega]
theorem start_at {rows cols:Int} {ts:List Triple} {i:Int} (h0:0≤i) (h:i≤rows):at0 (builtS rows cols ts).Start i=below ts i.toNat:=at0_rm h0 (by omega)
theorem below_all {rows cols:Int} {ts:List Triple} (h:Canon rows cols ts):below ts rows.toNat=ts.length:=by
  have h0:=h.r0
  unfold below
  rw [List.countP_eq_length.2]
  intro t ht
  have:=h.inn t ht
  unfold inT at this
  simp; omega
theorem below_zero {ts:List Triple} (h:∀ t∈ts,0≤t.Row):below ts 0=0:=by
  unfold below
  rw [List.countP_eq_zero.2]; · rfl
  intro t ht
  have:=h t ht
  simp; omega
theorem Srt.at {ts:List Triple} (h:Srt ts) {i p:Nat} (hp:p<ts.length):ts[p].Row=i↔below ts i≤p∧(p:Int)<below ts (i+1):=by
  have h1:=h.row i p hp
  have h2:=h.row (i+1) p hp
  omega
theorem Canon.right {rows cols:Int} {ts:List Triple} (h:Canon rows cols ts):RightP (builtS rows cols ts) where
  r0:=h.r0
  r1:=h.r1
  c0:=h.c0
  c1:=h.c1
  sl:=by have:=h.r0; simp [builtS]; omega
  vl:=by simp [builtS]
  cl:=by simpa [builtS] using h.len
  s0:=by
    have:=h.r0
    rw [start_at (by omega) (by omega)]
    exact below_zero fun t ht=>(h.inn t ht).1
  sn:=by
    have:=h.r0
    show at0 (builtS rows cols ts).Start rows=_
    rw [start_at (by omega) (by omega),below_all h]; simp [builtS]
  up i hi:=by
    have hi:(i:Int)<rows:=hi
    rw [start_at (by omega) (by omega),start_at (by omega) (by omega)]
    have e1:((i:Int)).toNat=i:=by omega
    have e2:((i:Int)+1).toNat=i+1:=by omega
    rw [e1,e2,below_succ i ts fun t ht=>(h.inn t ht).1]
    have:=atRow_le ts (i+1)
    omega
  row i hi:=by
    have hi:(i:Int)<rows:=hi
    intro j hj1 hj2
    rw [start_at (by omega) (by omega)] at hj1 hj2 ⊢
    have e1:((i:Int)).toNat=i:=by omega
    have e2:((i:Int)+1).toNat=i+1:=by omega
    rw [e1] at hj1 ⊢
    rw [e2] at hj2
    have hb:=below_le ts (i+1)
    have hjl:j<ts.length:=by omega
    have hc:at0 (builtS rows cols ts).Col j=ts[j].Col:=by
      show at0 (ts.map (·.Col)) j=_
      rw [at0_map (by omega) (by omega)]; rfl
    have hin:=h.inn _ (List.getElem_mem hjl)
    have hr:=(h.srt.at hjl (i:=i)).2 ⟨hj1,hj2⟩
    unfold inT at hin
    refine ⟨by rw [hc]; omega,by rw [hc]; exact hin.2.2.2,fun hlt=>?_⟩
    obtain ⟨q,rfl⟩:∃ q,j=q+1:=⟨j - 1,by have:=below_le ts i; omega⟩
    have hc2:at0 (builtS rows cols ts).Col (((q+1:Nat):Int) - 1)=ts[q].Col:=by
      show at0 (ts.map (·.Col)) _=_
      rw [at0_map (by omega) (by omega)]
      simp
    have hr2:=(h.srt.at (show q<ts.length by omega) (i:=i)).2 ⟨by omega,by omega⟩
    have hs:=List.pairwise_iff_getElem.1 h.srt q (q+1) (by omega) hjl (by omega)
    unfold ltK key at hs
    simp only at hs
    rw [hc,hc2]; omega
theorem countP_lt (s:Int) (h0:0≤s):∀ n:Nat,s≤n→(((List.range n).countP (fun p:Nat=>decide ((p:Int)<s)):Nat):Int)=s
  | 0,h=>by simp; omega
  | n+1,h=>by
    rw [List.range_succ,List.countP_append,List.countP_singleton]
    by_cases e:s≤n
    · rw [if_neg (by simp; omega)]
      have:=countP_lt s h0 n e
      omega
    · have hs:s=n+1:=by omega
      subst hs
      rw [if_pos (by simp; omega),List.countP_eq_length.2 (by simp; omega)]
      simp
theorem map_at0 (xs:List Int) (n:Nat) (h:xs.length=n):(List.range n).map (fun p:Nat=>at0 xs p)=xs:=by
  subst h
  apply List.ext_getElem?
  intro i
  by_cases h:i<xs.length
  · rw [rm_get h]; unfold at0; simp [List.getD_eq_getElem?_getD,h]
  · rw [List.getElem?_eq_none (by simp; omega),List.getElem?_eq_none (by omega)]
def rowOf (a:Rows) (p:Nat):Int:=(((List.range a.Rows.toNat).countP (fun i:Nat=>decide (at0 a.Start ((i:Int)+1)≤p)):Nat):Int)
def trip (a:Rows):List Triple:=(List.range a.Col.length).map fun p=>⟨rowOf a p,at0 a.Col p,at0 a.Val p⟩
theorem rowOf_lt {a:Rows} (h:RightP a) (p v:Nat) (hv:(v:Int)≤a.Rows):rowOf a p<v↔(p:Int)<at0 a.Start v:=by
  obtain ⟨n,hn⟩:∃ n:Nat,a.Rows=n:=⟨a.Rows.toNat,by have:=h.r0; omega⟩
  cases v with
  | zero=>have:=h.s0; unfold rowOf; simp only [Int.ofNat_zero] at *; rw [this]; omega
  | succ v=>
    have hup:∀ i:Nat,i<n→at0 a.Start i≤at0 a.Start ((i:Int)+1):=fun i hi=>h.up i (by omega)
    have hm:=mono_count (q:=fun i:Nat=>decide (at0 a.Start ((i:Int)+1)≤p)) (l:=List.range n) (by
      rw [List.pairwise_iff_getElem]
      intro i j hi hj hij
      simp only [List.getElem_range,decide_eq_true_eq]
      intro hh
      simp at hj
      have:=up_le hup (i:=i+1) (j:=j+1) (by omega) (by omega)
      have e1:((i+1:Nat):Int)=(i:Int)+1:=by omega
      have e2:((j+1:Nat):Int)=(j:Int)+1:=by omega
      rw [e1,e2] at this; omega) v (by simp; omega)
    simp only [List.getElem_range,decide_eq_true_eq] at hm
    unfold rowOf
    rw [hn,Int.toNat_natCast]
    have e2:((v+1:Nat):Int)=(v:Int)+1:=by omega
    rw [e2]
    omega
theorem rise {a:Rows} (h:RightP a) {i p q:Nat} (hi:(i:Int)<a.Rows) (h1:at0 a.Start i≤p) (h2:(q:Int)<at0 a.Start ((i:Int)+1)) (hpq:p<q):at0 a.Col p<at0 a.Col q:=by
  induction q with
  | zero=>omega
  | succ q ih=>
    have:=(h.row i hi (q+1) (by omega) h2).2.2 (by omega)
    rw [show ((q+1:Nat):Int) - 1=q by omega] at this
    by_cases e:p=q
    · subst e; exact this
    · have:=ih (by omega) (by omega); omega
theorem RightP.canon {a:Rows} (h:RightP a):Canon a.Rows a.Cols (trip a)∧a=builtS a.Rows a.Cols (trip a):=by
  obtain ⟨n,hn⟩:∃ n:Nat,a.Rows=n:=⟨a.Rows.toNat,by have:=h.r0; omega⟩
  have hlt:∀ p:Nat,p<a.Col.length→rowOf a p<n:=fun p hp=>by
    have:=(rowOf_lt h p n (by omega)).2 (by have:=h.sn; rw [hn] at this; omega)
    exact this
  have hst:∀ (p i:Nat),p<a.Col.length→rowOf a p=i→at0 a.Start i≤p∧(p:Int)<at0 a.Start ((i:Int)+1):=fun p i hp e=>by
    have h0:=hlt p hp
    have h1:=rowOf_lt h p i (by omega)
    have h2:=rowOf_lt h p (i+1) (by omega)
    rw [show ((i+1:Nat):Int)=(i:Int)+1 by omega] at h2
    omega
  have hpos:∀ p,∃ i:Nat,rowOf a p=i:=fun p=>⟨_,rfl⟩
  refine ⟨⟨h.r0,h.r1,h.c0,h.c1,by simpa [trip] using h.cl,?_,?_⟩,?_⟩
  · unfold Srt trip
    rw [List.pairwise_map,List.pairwise_iff_getElem]
    intro i j hi hj hij
    have hi:i<a.Col.length:=by simpa using hi
    have hj:j<a.Col.length:=by simpa using hj
    simp only [List.getElem_range]
    obtain ⟨ri,hri⟩:=hpos i
    obtain ⟨rj,hrj⟩:=hpos j
    have h1:=hst i ri hi hri
    have h2:=hst j rj hj hrj
    have hri':=hlt i hi
    have hrj':=hlt j hj
    have hle:ri≤rj:=by
      have:=rowOf_lt h i (rj+1) (by omega)
      rw [show ((rj+1:Nat):Int)=(rj:Int)+1 by omega] at this
      omega
    unfold ltK key
    simp only
    rw [hri,hrj]
    by_cases e:ri=rj
    · subst e
      exact .inr ⟨rfl,rise h (by omega) h1.1 h2.2 hij⟩
    · left; omega
  · intro t ht
    obtain ⟨p,hp,rfl⟩:=List.mem_map.1 ht
    simp only [List.mem_range] at hp
    obtain ⟨r,hr⟩:=hpos p
    have h0:=hlt p hp
    have h1:=hst p r hp hr
    have h2:=h.row r (by omega) p h1.1 h1.2
    unfold inT
    simp only
    omega
  · rw [rows_eq]
    refine ⟨rfl,rfl,?_,?_,?_⟩
    · unfold builtS
      simp only
      have hl:=h.sl
      have hb:∀ v:Nat,v<n+1→below (trip a) v=at0 a.Start v:=by
        intro v hv
        unfold below trip
        rw [List.countP_map]
        have h1:0≤at0 a.Start v:=by
          have:=up_le (n:=n) (fun i hi=>h.up i (by omega)) (i:=0) (j:=v) (by omega) (by omega)
          have h0:=h.s0
          rw [show ((0:Nat):Int)=0 from rfl,h0] at this; exact this
        have h2:at0 a.Start v≤a.Col.length:=by
          have:=up_le (n:=n) (fun i hi=>h.up i (by omega)) (i:=v) (j:=n) (by omega) (by omega)
          have h0:=h.sn
          rw [hn] at h0; rw [h0] at this; exact this
        refine Eq.trans ?_ (countP_lt (at0 a.Start v) h1 a.Col.length h2)
        congr 1
        apply List.countP_congr
        intro p hp
        simp only [Function.comp_apply,decide_eq_true_eq]
        exact rowOf_lt h p v (by omega)
      rw [show a.Rows.toNat+1=n+1 by omega,rm_congr hb,map_at0 a.Start (n+1) (by omega)]
    · unfold builtS trip
      simp only [List.map_map]
      exact (map_at0 a.Col _ rfl).symm
    · unfold builtS trip
      simp only [List.map_map]
      exact (map_at0 a.Val _ h.vl).symm
theorem canon_empty:Canon 0 0 []:=⟨by omega,by omega,by omega,by omega,by simp,.nil,by simp⟩
noncomputable def sureS (a:Rows):Rows:=if RightP a then a else builtS 0 0 []
theorem sure_ok {a:Rows} {Q:Rows→Prop} (hl:small a) (hQ:Q (sureS a)):csr_sure a Q:=by
  unfold csr_sure csr_empty
  unfold sureS at hQ
  refine right_ok hl (ifP_dec (fun h=>?_) (fun h=>?_))
  · rwa [if_pos h] at hQ
  · rw [if_neg h] at hQ
    exact ⟨by decide,by decide,hQ⟩
def segS (ts:List Triple) (i:Nat):List Triple:=ts.filter fun t=>decide (t.Row=i)
theorem seg_eq {ts:List Triple} (h:Srt ts) (i:Nat) {lo hi:Nat} (hlo:below ts i=lo) (hhi:below ts (i+1)=hi) (hle:lo≤hi) (hl:hi≤ts.length):(ts.take hi).drop lo=segS ts i:=by
  have e:ts=ts.take lo++((ts.take hi).drop lo++ts.drop hi):=by
    have h1:ts.take lo=(ts.take hi).take lo:=by rw [List.take_take,Nat.min_eq_left hle]
    rw [←List.append_assoc,h1,List.take_append_drop,List.take_append_drop]
  have hr:∀ (p:Nat) (hp:p<ts.length),ts[p].Row=i↔lo≤p∧p<hi:=fun p hp=>by have:=h.at (i:=i) hp; omega
  unfold segS
  conv=>rhs; rw [e]
  rw [List.filter_append,List.filter_append,List.filter_eq_nil_iff.2,List.filter_eq_self.2,List.filter_eq_nil_iff.2]
  · simp
  · intro t ht
    obtain ⟨j,hj,rfl⟩:=List.getElem_of_mem ht
    simp only [List.getElem_drop,decide_eq_true_eq]
    rw [hr]; omega
  · intro t ht
    obtain ⟨j,hj,rfl⟩:=List.getElem_of_mem ht
    simp only [List.getElem_drop,List.getElem_take,decide_eq_true_eq]
    simp only [List.length_drop,List.length_take] at hj
    rw [hr]; omega
  · intro t ht
    obtain ⟨j,hj,rfl⟩:=List.getElem_of_mem ht
    simp only [List.getElem_take,decide_eq_true_eq]
    simp only [List.length_take] at hj
    rw [hr]; omega
structure Seg (ts:List Triple) (i l u:Nat):Prop where
  lo:below ts i=l
  hi:below ts (i+1)=u
  le:l≤u
  len:u≤ts.length
  eq:(ts.take u).drop l=segS ts i
  row:∀ (p:Nat) (hp:p<ts.length),l≤p→p<u→ts[p].Row=i
theorem Canon.seg {rows cols:Int} {ts:List Triple} (h:Canon rows cols ts) (i:Nat):∃ lo hi,Seg ts i lo hi:=by
  have hs:=below_succ i ts fun t ht=>(h.inn t ht).1
  have ha:=atRow_le ts (i+1)
  have hb:=below_le ts (i+1)
  obtain ⟨lo,hlo⟩:∃ lo:Nat,below ts i=lo:=⟨_,rfl⟩
  obtain ⟨hi,hhi⟩:∃ hi:Nat,below ts (i+1)=hi:=⟨_,rfl⟩
  exact ⟨lo,hi,hlo,hhi,by omega,by omega,seg_eq h.srt i hlo hhi (by omega) (by omega),fun p hp h1 h2=>by have:=h.srt.at (i:=i) hp; omega⟩
theorem Canon.sml {rows cols:Int} {ts:List Triple} (h:Canon rows cols ts):small (builtS rows cols ts):=by
  have:=h.r0; have:=h.r1; have:=h.len
  unfold small builtS; simp; omega
theorem start_idx {rows cols:Int} {ts:List Triple} {i:Nat} {K:Int→Prop} (h:(i:Int)≤rows) (hk:K (below ts i)):idxP (builtS rows cols ts).Start (i:Int) K:=
  idxP_intro (by omega) (rm_get (by simp; omega)) hk
theorem part_ok {rows cols:Int} {ts:List Triple} {i:Nat} {Q:List Int×List Int→Prop} (h:Canon rows cols ts) (hi:(i:Int)<rows) (hQ:Q ((segS ts i).map (·.Col),(segS ts i).map (·.Val))):csr_part (builtS rows cols ts) i Q:=by
  unfold csr_part
  have hr:=h.r1
  obtain ⟨lo,hi',s⟩:=h.seg i
  have e1:w64 ((i:Int)+1)=(i+1:Nat):=by rw [w64_id (by omega) (by omega)]; omega
  rw [e1]
  refine start_idx (by omega) (start_idx (by omega) ?_)
  rw [s.lo,s.hi]
  have h1:=s.le; have h2:=s.len
  have hc:(builtS rows cols ts).Col.length=ts.length:=by simp [builtS]
  have hv:(builtS rows cols ts).Val.length=ts.length:=by simp [builtS]
  refine ⟨by omega,by omega,by omega,by omega,by omega,by omega,?_⟩
  simp only [Int.toNat_natCast,builtS,←List.map_take,←List.map_drop,s.eq]
  exact hQ
def itS (t:Triple):Item:=⟨t.Col,t.Val⟩
def rowS (rows:Int) (ts:List Triple) (i:Int):List Item:=if 0≤i∧i<rows then (segS ts i.toNat).map itS else []
theorem seg_len_le (ts:List Triple) (i:Nat):(segS ts i).length≤ts.length:=List.length_filter_le _ _
theorem csr_row_ok {a:Rows} {rows cols i:Int} {ts:List Triple} {Q:List Item→Prop} (hl:small a) (ha:sureS a=builtS rows cols ts) (h:Canon rows cols ts) (hQ:Q (rowS rows ts i)):csr_Row a i Q:=by
  unfold csr_Row
  have hr0:=h.r0; have hr1:=h.r1; have hlen:=h.len
  refine sure_ok hl ?_
  rw [ha]
  have e:w64 ((builtS rows cols ts).Rows - 1)=rows - 1:=w64_id (by show -9223372036854775808≤rows - 1; omega) (by show rows - 1≤9223372036854775807; omega)
  rw [e]
  unfold rowS at hQ
  refine within_ok (ifP_not (fun hn=>?_) (fun hy=>?_))
  · have hn:¬(0≤i∧i≤rows - 1):=by simpa using hn
    rw [if_neg (by omega)] at hQ; exact hQ
  have hy:0≤i∧i≤rows - 1:=by simpa using hy
  rw [if_pos (by omega)] at hQ
  obtain ⟨n,rfl⟩:∃ n:Nat,i=n:=⟨i.toNat,by omega⟩
  rw [Int.toNat_natCast] at hQ
  refine part_ok h (by omega) ?_
  have hs:=seg_len_le ts n
  generalize segS ts n=xs at hQ hs
  refine range_intro (fun (s:List Item) i=>(s,i)) 0 xs.length (by omega) (fun i s=>s=(xs.take i).map itS) (by omega) rfl (fun i s next _ hi hm hn=>?_) (fun s next hm=>?_)
  · subst hm
    dsimp only
    refine ifP_dec (fun _=>?_) (fun h=>by simp at h; omega)
    refine idxP_intro (by omega) (x:=xs[i].Col) (by simp [hi]) (idxP_intro (by omega) (x:=xs[i].Val) (by simp [hi]) (appP_intro ?_ (hn _ ?_)))
    · simp; omega
    · rw [take_map hi]; rfl
  · subst hm
    dsimp only
    refine ifP_dec (fun h=>by simp at h) (fun _=>?_)
    rw [List.take_length]; exact hQ
theorem ext_step {ts:List Triple} {lo p:Nat} (h1:lo≤p) (h2:p<ts.length):(ts.take (p+1)).drop lo=(ts.take p).drop lo++[ts[p]]:=by
  rw [List.take_succ_eq_append_getElem h2,List.drop_append_of_le_length (by simp; omega)]
theorem csr_triples_ok {a:Rows} {rows cols:Int} {ts:List Triple} {Q:List Triple→Prop} (hl:small a) (ha:sureS a=builtS rows cols ts) (h:Canon rows cols ts) (hQ:Q ts):csr_Triples a Q:=by
  unfold csr_Triples
  have hr0:=h.r0; have hr1:=h.r1; have hlen:=h.len
  refine sure_ok hl ?_
  rw [ha]
  obtain ⟨n,hn⟩:∃ n:Nat,rows=n:=⟨rows.toNat,by omega⟩
  have hrw:(builtS rows cols ts).Rows=n:=hn
  rw [hrw]
  refine range_intro (fun (s:List Triple) i=>(s,i)) 0 n (by omega) (fun i s=>s=ts.take (below ts i).toNat) (by omega) (s0:=[]) (by rw [below_zero fun t ht=>(h.inn t ht).1]; rfl) (fun i s next _ hi hm hnx=>?_) (fun s next hm=>?_)
  · subst hm
    dsimp only
    refine ifP_dec (fun _=>?_) (fun h=>by omega)
    refine part_ok h (by omega) ?_
    obtain ⟨lo,hi',s⟩:=h.seg i
    have g1:=s.le; have g2:=s.len
    rw [s.lo,Int.toNat_natCast]
    have hsl:(segS ts i).length=hi' - lo:=by rw [←s.eq]; simp; omega
    have hgt:∀ (j:Nat) (hj:j<(segS ts i).length),(segS ts i)[j]=ts[lo+j]'(by omega):=fun j hj=>by simp [←s.eq]
    refine range_intro (fun (s:List Triple) i=>(s,i)) 0 (segS ts i).length (by omega) (fun j st=>st=ts.take (lo+j)) (by omega) (by simp) (fun j st nx _ hj hm hnj=>?_) (fun st nx hm=>?_)
    · subst hm
      dsimp only
      refine ifP_dec (fun _=>?_) (fun h=>by simp at h; omega)
      have hpl:lo+j<ts.length:=by omega
      refine idxP_intro (by omega) (x:=ts[lo+j].Col) (by simp [hj,hgt]) (idxP_intro (by omega) (x:=ts[lo+j].Val) (by simp [hj,hgt]) (appP_intro ?_ (hnj _ ?_)))
      · simp; omega
      · rw [show lo+(j+1)=lo+j+1 by omega,List.take_succ_eq_append_getElem hpl]
        congr 2
        have:=s.row (lo+j) hpl (by omega) (by omega)
        rw [←this]
    · subst hm
      dsimp only
      refine ifP_dec (fun h=>by simp at h) (fun _=>hnx _ ?_)
      rw [s.hi,hsl,Int.toNat_natCast]; congr 1; omega
  · subst hm
    dsimp only
    refine ifP_dec (fun h=>by omega) (fun _=>?_)
    have hb:=below_all h
    rw [hn,Int.toNat_natCast] at hb
    rw [hb,Int.toNat_natCast,List.take_length]; exact hQ
theorem Srt.nodup {l:List Triple} (h:Srt l):l.Nodup:=by
  rw [List.nodup_iff_pairwise_ne]
  exact List.Pairwise.imp (R:=fun a b=>ltK (key a) (key b)) (fun {a b} hab (e:a=b)=>ltK_irrefl (key b) (by rw [e] at hab; exact hab)) h
theorem srt_ext {l l':List Triple} (h:Srt l) (h':Srt l') (he:∀ t,t∈l↔t∈l'):l=l':=
  sorted_eq ((List.perm_ext_iff_of_nodup h.nodup h'.nodup).2 he) h h' fun a b _ _ h1 h2=>absurd (ltK_trans h1 h2) (ltK_irrefl _)
theorem sure_built {rows cols:Int} {ts:List Triple} (h:Canon rows cols ts):sureS (builtS rows cols ts)=builtS rows cols ts:=by
  unfold sureS; rw [if_pos h.right]
def flip (t:Triple):Triple:=⟨t.Col,t.Row,t.Val⟩
def turnT (cols:Int) (ts:List Triple):List Triple:=(List.range cols.toNat).flatMap fun c:Nat=>(ts.filter fun t:Triple=>decide (t.Col=(c:Int))).map flip
theorem turn_mem {rows cols:Int} {ts:List Triple} (h:Canon rows cols ts) (t:Triple):t∈turnT cols ts↔flip t∈ts:=by
  unfold turnT
  simp only [List.mem_flatMap,List.mem_range,List.mem_map,List.mem_filter,decide_eq_true_eq]
  constructor
  · rintro ⟨c,hc,u,⟨hu,_⟩,rfl⟩; exact hu
  · intro ht
    have:=h.inn _ ht
    unfold inT flip at this
    simp only at this
    exact ⟨t.Row.toNat,by omega,flip t,⟨ht,by show t.Row=_; omega⟩,rfl⟩
theorem turn_srt {ts:List Triple} (cols:Int) (h:Srt ts):Srt (turnT cols ts):=by
  unfold Srt turnT
  rw [List.pairwise_flatMap]
  refine ⟨fun c _=>?_,?_⟩
  · rw [List.pairwise_map]
    refine List.Pairwise.imp_of_mem (fun {a b} ha hb hab=>?_) (List.Pairwise.filter (R:=fun a b=>ltK (key a) (key b)) (fun t=>decide (t.Col=(c:Int))) h)
    have h1:=(List.mem_filter.1 ha).2
    have h2:=(List.mem_filter.1 hb).2
    simp only [decide_eq_true_eq] at h1 h2
    unfold ltK key at *
    simp only [flip] at *
    omega
  · refine List.Pairwise.imp (fun {a b} hab x hx y hy=>?_) (List.pairwise_lt_range (n:=cols.toNat))
    obtain ⟨u,hu,rfl⟩:=List.mem_map.1 hx
    obtain ⟨v,hv,rfl⟩:=List.mem_map.1 hy
    have h1:=(List.mem_filter.1 hu).2
    have h2:=(List.mem_filter.1 hv).2
    simp only [decide_eq_true_eq] at h1 h2
    unfold ltK key flip
    simp only
    omega
theorem flip_nodup {ts:List Triple} (h:Srt ts):(ts.map flip).Nodup:=by
  rw [List.nodup_iff_pairwise_ne,List.pairwise_map]
  refine List.Pairwise.imp (R:=fun a b=>ltK (key a) (key b)) (fun {a b} hab e=>?_) h
  have:a=b:=by
    cases a; cases b
    simp only [flip,Triple.mk.injEq] at e ⊢
    omega
  subst this; exact ltK_irrefl _ hab
theorem turn_perm {rows cols:Int} {ts:List Triple} (h:Canon rows cols ts):(ts.map flip).Perm (turnT cols ts):=by
  refine (List.perm_ext_iff_of_nodup (flip_nodup h.srt) (turn_srt cols h.srt).nodup).2 fun t=>?_
  rw [turn_mem h,List.mem_map]
  exact ⟨by rintro ⟨u,hu,rfl⟩; exact hu,fun ht=>⟨flip t,ht,rfl⟩⟩
theorem turn_canon {rows cols:Int} {ts:List Triple} (h:Canon rows cols ts):Canon cols rows (turnT cols ts) where
  r0:=h.c0
  r1:=h.c1
  c0:=h.r0
  c1:=h.r1
  len:=by have:=(turn_perm h).length_eq; have:=h.len; simp at *; omega
  srt:=turn_srt cols h.srt
  inn t ht:=by
    have:=h.inn _ ((turn_mem h t).1 ht)
    unfold inT flip at *
    simp only at this
    omega
theorem csr_turn_ok {a:Rows} {rows cols:Int} {ts:List Triple} {Q:Rows→Prop} (hl:small a) (ha:sureS a=builtS rows cols ts) (h:Canon rows cols ts) (hQ:Q (builtS cols rows (turnT cols ts))):csr_Turn a Q:=by
  unfold csr_Turn
  have hlen:=h.len
  have hc1:=h.c1; have hc0:=h.c0
  refine sure_ok hl ?_
  rw [ha]
  refine csr_triples_ok h.sml (sure_built h) h ?_
  refine range_intro (fun (s:List Triple) i=>(s,i)) 0 ts.length (by omega) (fun i s=>s=(ts.take i).map flip++ts.drop i) (by omega) (by simp) (fun i s next _ hi hm hn=>?_) (fun s next hm=>?_)
  · subst hm
    dsimp only
    have hdr:ts.drop i=ts[i] :: ts.drop (i+1):=List.drop_eq_getElem_cons hi
    have hlen2:((ts.take i).map flip).length=i:=by simp; omega
    have hx:((ts.take i).map flip++ts.drop i)[i]? = some ts[i]:=by rw [List.getElem?_append_right (by omega),hlen2,hdr,Nat.sub_self]; rfl
    refine ifP_dec (fun _=>?_) (fun h=>by omega)
    refine idxP_intro (by omega) (by simpa using hx) (idxP_intro (by omega) (by simpa using hx) (hn _ ?_))
    rw [Int.toNat_natCast,List.set_append,if_neg (by omega),hlen2,Nat.sub_self,hdr,take_map hi,List.append_assoc]; rfl
  · subst hm
    dsimp only
    refine ifP_dec (fun h=>by omega) (fun _=>?_)
    rw [List.take_length,List.drop_length,List.append_nil]
    have hT:=turn_canon h
    refine sort_ok cfT (fun _ _ _=>cfT_ok) cfT_SWO (by simp; omega) (turn_perm h) ?_ ?_
    · exact List.Pairwise.imp (R:=fun a b=>ltK (key a) (key b)) (fun {a b} hab=>(cfT_lt _ _).2 hab) hT.srt
    · refine built_ok (show 0≤cols by omega) (show cols≤1000000 by omega) (by have:=hT.len; omega) (fun t ht=>?_) hQ
      have:=hT.inn t ht
      unfold inT at this
      exact ⟨this.1,this.2.1⟩
def cLo (l:Int):Int:=if 0 > l then 0 else l
def cHi (h n:Int):Int:=if n<h then n else h
def ext (l h n:Int):Int:=if cLo l<cHi h n then cHi h n - cLo l else 0
def cutT (l h c d:Int) (ts:List Triple):List Triple:=(ts.filter fun t=>decide ((l≤t.Row∧t.Row<h)∧(c≤t.Col∧t.Col<d))).map fun t=>⟨t.Row - l,t.Col - c,t.Val⟩
def cutS (rows cols:Int) (ts:List Triple) (p q:Int×Int):Rows:=builtS (ext p.1 p.2 rows) (ext q.1 q.2 cols) (cutT (cLo p.1) (cHi p.2 rows) (cLo q.1) (cHi q.2 cols) ts)
theorem ext_le (l h n:Int) (hn:0≤n) (h1:n≤4096):0≤ext l h n∧ext l h n≤n∧0≤cLo l∧cHi h n≤n:=by
  unfold ext cLo cHi; (repeat' split) <;> omega
theorem cut_canon {rows cols:Int} {ts:List Triple} (h:Canon rows cols ts) (p q:Int×Int):Canon (ext p.1 p.2 rows) (ext q.1 q.2 cols) (cutT (cLo p.1) (cHi p.2 rows) (cLo q.1) (cHi q.2 cols) ts):=by
  have h1:=ext_le p.1 p.2 rows h.r0 h.r1
  have h2:=ext_le q.1 q.2 cols h.c0 h.c1
  have h3:=h.r1; have h4:=h.c1
  refine ⟨by omega,by omega,by omega,by omega,?_,?_,?_⟩
  · have:=h.len
    unfold cutT
    rw [List.length_map]
    exact Nat.le_trans (List.length_filter_le _ _) this
  · unfold Srt cutT
    rw [List.pairwise_map]
    refine List.Pairwise.imp (fun {a b} hab=>?_) (List.Pairwise.filter (R:=fun a b=>ltK (key a) (key b)) _ h.srt)
    unfold ltK key at *
    simp only at *
    omega
  · intro t ht
    obtain ⟨u,hu,rfl⟩:=List.mem_map.1 ht
    have hc:=(List.mem_filter.1 hu).2
    simp only [decide_eq_true_eq] at hc
    have e1:ext p.1 p.2 rows=cHi p.2 rows - cLo p.1:=by unfold ext; rw [if_pos (by omega)]
    have e2:ext q.1 q.2 cols=cHi q.2 cols - cLo q.1:=by unfold ext; rw [if_pos (by omega)]
    unfold inT
    simp only
    omega
theorem bounds_ok {p:Int×Int} {n:Int} {Q:Int×Int→Prop} (h0:0≤n) (h1:n≤4096) (hQ:Q (cLo p.1,ext p.1 p.2 n)):csr_bounds p n Q:=by
  unfold csr_bounds
  show ifP (decide (cHi p.2 n≤cLo p.1)) (Q (cLo p.1,0)) (Q (cLo p.1,w64 (cHi p.2 n - cLo p.1)))
  have hb:=ext_le p.1 p.2 n h0 h1
  unfold ext at hQ
  refine ifP_dec (fun h=>?_) (fun h=>?_)
  · rwa [if_neg (by omega)] at hQ
  · rw [if_pos (by omega)] at hQ
    rwa [w64_id (by omega) (by omega)]
def colc (c d:Int) (t:Triple):Bool:=decide (c≤t.Col∧t.Col<d)
def shf (l c:Int) (t:Triple):Triple:=⟨t.Row - l,t.Col - c,t.Val⟩
theorem cut_step {ts:List Triple} (h:Srt ts) (l c d:Int) (v:Nat) (hv:l≤v):cutT l ((v:Int)+1) c d ts=cutT l v c d ts++((segS ts v).filter (colc c d)).map (shf l c):=by
  unfold cutT
  rw [show (fun t:Triple=>(⟨t.Row - l,t.Col - c,t.Val⟩:Triple))=shf l c from rfl,←List.map_append]
  congr 1
  refine srt_ext (List.Pairwise.filter _ h) (List.pairwise_append.2 ⟨List.Pairwise.filter _ h,List.Pairwise.filter _ (List.Pairwise.filter _ h),fun a ha b hb=>?_⟩) fun t=>?_
  · have h1:=(List.mem_filter.1 ha).2
    have h2:=(List.mem_filter.1 (List.mem_filter.1 hb).1).2
    simp only [decide_eq_true_eq] at h1 h2
    unfold ltK key
    simp only
    omega
  · unfold segS colc
    simp only [List.mem_append,List.mem_filter,decide_eq_true_eq]
    constructor
    · rintro ⟨h1,h2⟩
      by_cases e:t.Row=v
      · exact .inr ⟨⟨h1,e⟩,h2.2⟩
      · exact .inl ⟨h1,by omega,h2.2⟩
    · rintro (⟨h1,h2⟩ | ⟨⟨h1,h2⟩,h3⟩)
      · exact ⟨h1,by omega,h2.2⟩
      · exact ⟨h1,by omega,h3⟩
theorem cut_nil {ts:List Triple} {l h c d:Int} (hh:h≤l):cutT l h c d ts=[]:=by
  unfold cutT
  rw [List.filter_eq_nil_iff.2]; · rfl
  intro t ht
  simp only [decide_eq_true_eq]; omega
theorem csr_cut_ok {a:Rows} {rows cols:Int} {ts:List Triple} {p q:Int×Int} {Q:Rows→Prop} (hl:small a) (ha:sureS a=builtS rows cols ts) (h:Canon rows cols ts) (hQ:Q (cutS rows cols ts p q)):csr_Cut a p q Q:=by
  unfold csr_Cut
  have hlen:=h.len
  have hr1:=h.r1; have hc1:=h.c1
  have b1:=ext_le p.1 p.2 rows h.r0 h.r1
  have b2:=ext_le q.1 q.2 cols h.c0 h.c1
  refine sure_ok hl ?_
  rw [ha]
  refine bounds_ok h.r0 h.r1 (bounds_ok h.c0 h.c1 ?_)
  show loopP _ _
  have hcan:=cut_canon h p q
  unfold cutS at hQ
  have hrl:(builtS rows cols ts).Rows=rows:=rfl
  have hcl:(builtS rows cols ts).Cols=cols:=rfl
  rw [hcl,hrl]
  generalize hL:cLo p.1=L at *
  generalize hH:cHi p.2 rows=H at *
  generalize hC:cLo q.1=C at *
  generalize hD:cHi q.2 cols=D at *
  have eE:ext p.1 p.2 rows=if L<H then H - L else 0:=by unfold ext; rw [hL,hH]
  have eF:ext q.1 q.2 cols=if C<D then D - C else 0:=by unfold ext; rw [hC,hD]
  generalize ext p.1 p.2 rows=E at *
  generalize ext q.1 q.2 cols=F at *
  dsimp only
  obtain ⟨n,hn⟩:∃ n:Nat,E=n:=⟨E.toNat,by omega⟩
  rw [hn]
  refine range_intro (fun (s:List Triple) i=>(s,i)) 0 n (by omega) (fun i s=>s=cutT L (L+(i:Nat)) C D ts) (by omega) (s0:=[]) (by rw [cut_nil (by omega)]) (fun i s next _ hi hm hnx=>?_) (fun s next hm=>?_)
  · subst hm
    dsimp only
    have hLH:L<H∧E=H - L:=by
      by_cases e:L<H
      · rw [if_pos e] at eE; exact ⟨e,eE⟩
      · rw [if_neg e] at eE; omega
    obtain ⟨v,hv⟩:∃ v:Nat,L+(i:Int)=v:=⟨(L+i).toNat,by omega⟩
    have e1:w64 (L+(i:Int))=v:=by rw [w64_id (by omega) (by omega)]; exact hv
    rw [e1]
    refine ifP_dec (fun _=>?_) (fun h=>by omega)
    refine csr_row_ok h.sml (sure_built h) h ?_
    have erow:rowS rows ts v=(segS ts v).map itS:=by unfold rowS; rw [if_pos (by omega),Int.toNat_natCast]
    rw [erow]
    have hsl:=seg_len_le ts v
    have hrow:∀ t∈segS ts v,t.Row=v:=fun t ht=>by simpa using (List.mem_filter.1 ht).2
    have hin:∀ t∈segS ts v,inT rows cols t:=fun t ht=>h.inn t (List.mem_filter.1 ht).1
    have hcut:=cut_step h.srt L C D v (by omega)
    rw [show (v:Int)+1=L+((i+1:Nat):Int) by omega] at hcut
    rw [hcut] at hnx
    have hacc:(cutT L v C D ts).length≤ts.length:=by
      unfold cutT
      rw [List.length_map]
      exact List.length_filter_le _ _
    rw [hv]
    generalize cutT L v C D ts=acc at hnx hacc
    generalize segS ts v=xs at *
    refine range_intro (fun (s:List Triple) i=>(s,i)) 0 xs.length (by omega) (fun j s=>s=acc++((xs.take j).filter (colc C D)).map (shf L C)) (by omega) (by simp) (fun j s nx _ hj hm hnj=>?_) (fun s nx hm=>?_)
    · subst hm
      dsimp only
      refine ifP_dec (fun _=>?_) (fun h=>by simp at h; omega)
      have hm:=List.getElem_mem hj
      have hi1:=hin _ hm
      have hr:=hrow _ hm
      unfold inT at hi1
      have hst:(xs.take (j+1)).filter (colc C D)=(xs.take j).filter (colc C D)++if colc C D xs[j]=true then [xs[j]] else []:=by
        rw [List.take_succ_eq_append_getElem hj,List.filter_append,List.filter_cons,List.filter_nil]
      refine idxP_intro (by omega) (x:=itS xs[j]) (by simp [hj]) ?_
      have eAt:(itS xs[j]).At=xs[j].Col:=rfl
      have eVal:(itS xs[j]).Val=xs[j].Val:=rfl
      rw [eAt,eVal]
      refine join_intro (fun b=>b=colc C D xs[j]) ?_ fun k hk=>?_
      · rintro _ rfl
        refine ⟨fun hc=>appP_intro ?_ (hnj _ ?_),fun hc=>hnj _ ?_⟩
        · have:=List.length_filter_le (colc C D) (xs.take j)
          have h4:(xs.take j).length≤xs.length:=by simp; omega
          simp only [List.length_append,List.length_map,List.length_singleton]
          omega
        · have hc':C≤xs[j].Col∧xs[j].Col<D:=by simpa [colc] using hc
          rw [hst,if_pos hc,List.map_append,List.append_assoc,w64_id (x:=xs[j].Col - C) (by omega) (by omega)]
          have:(⟨(i:Int),xs[j].Col - C,xs[j].Val⟩:Triple)=shf L C xs[j]:=by unfold shf; rw [show (i:Int)=xs[j].Row - L by omega]
          rw [this]; rfl
        · rw [hst,if_neg (by simp [hc]),List.append_nil]
      · refine ifP_dec (fun hc=>hk _ ?_) (fun hc=>hk _ ?_)
        · unfold colc
          apply decide_eq_decide.2
          rw [eF,w64_id (x:=xs[j].Col - C) (by omega) (by omega)]
          split <;> omega
        · unfold colc; symm; apply decide_eq_false; omega
    · subst hm
      dsimp only
      refine ifP_dec (fun h=>by simp at h) (fun _=>hnx _ ?_)
      rw [List.take_length]
  · subst hm
    dsimp only
    refine ifP_dec (fun h=>by omega) (fun _=>?_)
    have e:cutT L (L+(n:Int)) C D ts=cutT L H C D ts:=by
      by_cases e:L<H
      · rw [if_pos e] at eE; rw [show L+(n:Int)=H by omega]
      · rw [if_neg e] at eE; rw [cut_nil (by omega),cut_nil (by omega)]
    rw [e]
    rw [hn] at hcan hQ
    refine built_ok (by omega) (by omega) (by have:=hcan.len; omega) (fun t ht=>?_) hQ
    have:=hcan.inn t ht
    unfold inT at this
    exact ⟨this.1,this.2.1⟩
theorem fin_canon {r rows cols:Int} {kvs:List (Key×Int)} (h:0≤rows∧rows≤4096∧0≤cols∧cols≤4096) (hl:kvs.length≤65536) (hk:∀ t∈kvs,inT rows cols (mkT t.1 0)) (hv:∀ t∈kvs,inI t.2):Canon rows cols (finS (SC r kvs) mkT).1:=by
  refine ⟨h.1,h.2.1,h.2.2.1,h.2.2.2,?_,?_,?_⟩
  · exact Nat.le_trans (fin_len _) (by have:=(SC_prop r kvs hv).1; omega)
  · unfold finS
    split
    · unfold Srt
      rw [List.pairwise_map]
      exact SC_srt r kvs
    · exact .nil
  · intro t ht
    unfold finS at ht
    split at ht
    · obtain ⟨p,hp,rfl⟩:=List.mem_map.1 ht
      obtain ⟨x,hx,e⟩:=SC_keys hp
      have:=hk x hx
      unfold inT mkT at *
      rw [←e]
      exact this
    · simp at ht
theorem inR_i64 {x:Int} (h:inR .i64 x):inI x:=by have:=bounds_i64 h; unfold inI; omega
theorem few_ok {ts:List Triple} {Q:List Triple→Prop} (hQ:∀ ys:List Triple,ys.length≤60→(∀ t∈ys,t∈ts)→Q ys):law07_Few ts Q:=by
  unfold law07_Few
  refine ifP_dec (fun h=>⟨by decide,by decide,by omega,hQ _ ?_ fun t ht=>?_⟩) (fun h=>hQ _ (by omega) fun t ht=>ht)
  · simp; omega
  · exact List.mem_of_mem_take (List.mem_of_mem_drop ht)
theorem small_zR:small zR:=⟨by decide,by decide,by decide⟩
theorem zR_wrong:¬RightP zR:=fun h=>by have:=h.sl; simp [zR] at this
theorem of_cases {r rows cols:Int} {ts:List Triple} (hv:∀ t∈ts,inI t.Val):((ofS r rows cols ts).1=zR∧(ofS r rows cols ts).2≠0)∨∃ T,Canon rows cols T∧ofS r rows cols ts=(builtS rows cols T,0)∧(1≤r∧r≤5)∧(∀ t∈ts,inT rows cols t)∧ts.length≤65536∧(0≤rows∧rows≤4096∧0≤cols∧cols≤4096)∧T=(finS (SC r (ts.map kvT)) mkT).1∧(finS (SC r (ts.map kvT)) mkT).2=0:=by
  unfold ofS
  split
  · left; exact ⟨rfl,by simp⟩
  split
  · left; exact ⟨rfl,by simp⟩
  split
  · left; exact ⟨rfl,by simp⟩
  split
  · left; exact ⟨rfl,by simp⟩
  split
  · rename_i h; left; exact ⟨rfl,h⟩
  · rename_i h1 h2 h3 h4 h5
    right
    have h2:=Decidable.of_not_not h2
    have h4:=Decidable.of_not_not h4
    refine ⟨_,fin_canon h2 (by simpa using h3) (fun t ht=>?_) (fun t ht=>?_),rfl,Decidable.of_not_not h1,h4,by omega,h2,rfl,Decidable.of_not_not h5⟩
    · obtain ⟨x,hx,rfl⟩:=List.mem_map.1 ht
      exact h4 x hx
    · obtain ⟨x,hx,rfl⟩:=List.mem_map.1 ht
      exact hv x hx
def endK (r:Int) (k:Key) (ts:List (Key×Int)):Option Wide:=ts.foldl (fun o t=>if k=t.1 then some (match o with | some w=>addW r w (ofI t.2) | none=>ofI t.2) else o) none
theorem SC_get (r:Int) (k:Key) (ts:List (Key×Int)):mget k (SC r ts)=endK r k ts:=by
  suffices ∀ (ts:List (Key×Int)) (l:List (Key×Wide)),srt l→mget k (ts.foldl (fun l t=>ins r t.1 (ofI t.2) l) l)=ts.foldl (fun o t=>if k=t.1 then some (match o with | some w=>addW r w (ofI t.2) | none=>ofI t.2) else o) (mget k l) from this ts [] .nil
  intro ts
  induction ts with
  | nil=>intro l _; rfl
  | cons t ts ih=>
    intro l h
    simp only [List.foldl_cons]
    rw [ih _ (ins_srt h),ins_get k h]
    congr 1
    by_cases e:k=t.1
    · subst e; rfl
    · rw [if_neg e,if_neg e]
theorem nar_ofI {v:Int} (h:inI v):narS (ofI v)=(v,true):=by
  unfold narS ofI
  unfold inI at h
  simp only
  rw [if_pos]
  · rw [w64_eq]; congr 1; omega
  · split <;> omega
theorem SC_one (ts:List (Key×Int)) (hv:∀ t∈ts,inI t.2):∀ p∈SC 1 ts,∃ v,inI v∧p.2=ofI v:=by
  suffices ∀ (ts:List (Key×Int)) (l:List (Key×Wide)),(∀ t∈ts,inI t.2)→(∀ p∈l,∃ v,inI v∧p.2=ofI v)→∀ p∈ts.foldl (fun l t=>ins 1 t.1 (ofI t.2) l) l,∃ v,inI v∧p.2=ofI v from this ts [] hv (by simp)
  have hins:∀ (k:Key) (v:Int),inI v→∀ l:List (Key×Wide),(∀ p∈l,∃ v,inI v∧p.2=ofI v)→∀ p∈ins 1 k (ofI v) l,∃ v,inI v∧p.2=ofI v:=by
    intro k v hv l
    induction l with
    | nil=>intro _ p hp; simp [ins] at hp; exact ⟨v,hv,by rw [hp]⟩
    | cons q l ih=>
      intro h p hp
      unfold ins at hp
      split at hp
      · rcases List.mem_cons.1 hp with rfl | hp
        · exact h _ (by simp)
        · exact ih (fun x hx=>h x (by simp [hx])) p hp
      · split at hp
        · rcases List.mem_cons.1 hp with rfl | hp
          · obtain ⟨u,hu,e⟩:=h q (by simp)
            unfold addW
            simp only [true_or,if_true]
            split
            · exact ⟨u,hu,e⟩
            · exact ⟨v,hv,rfl⟩
          · exact h p (by simp [hp])
        · rcases List.mem_cons.1 hp with rfl | hp
          · exact ⟨v,hv,rfl⟩
          · exact h p hp
  intro ts
  induction ts with
  | nil=>intro l _ h; exact h
  | cons t ts ih=>intro l ht h; exact ih _ (fun x hx=>ht x (by simp [hx])) (hins _ _ (ht t (by simp)) l h)
theorem fin_one {α:Type} {mk:Key→Int→α} {ts:List (Key×Int)} (hv:∀ t∈ts,inI t.2):finS (SC 1 ts) mk=((SC 1 ts).map (fun p=>mk p.1 (narS p.2).1),0):=by
  refine fin_perm (m:=[]) (.refl _) fun p hp=>?_
  obtain ⟨v,h1,h2⟩:=SC_one ts hv p hp
  rw [h2,nar_ofI h1]
theorem nar_inI (a:Wide):inI (narS a).1:=by
  unfold narS inI
  split
  · simp only [w64_eq]; omega
  · simp
theorem ins_last {r:Int} {k:Key} {v:Wide} {l:List (Key×Wide)} (h:∀ p∈l,ltK p.1 k):ins r k v l=l++[(k,v)]:=by
  induction l with
  | nil=>rfl
  | cons p l ih=>unfold ins; rw [if_pos (h p (by simp)),ih fun q hq=>h q (by simp [hq])]; rfl
theorem SC_self {r:Int} {T:List Triple} (h:Srt T):SC r (T.map kvT)=T.map fun t=>(key t,ofI t.Val):=by
  suffices ∀ i,i≤T.length→SC r ((T.take i).map kvT)=(T.take i).map fun t=>(key t,ofI t.Val) by
    have:=this T.length (Nat.le_refl _)
    rwa [List.take_length] at this
  intro i
  induction i with
  | zero=>intro _; rfl
  | succ i ih=>
    intro hi
    rw [take_map (show i<T.length by omega),take_map (show i<T.length by omega),SC_snoc,ih (by omega),ins_last]
    · rfl
    · intro p hp
      obtain ⟨t,ht,rfl⟩:=List.mem_map.1 hp
      obtain ⟨j,hj,rfl⟩:=List.getElem_of_mem ht
      simp only [List.length_take] at hj
      rw [List.getElem_take]
      exact List.pairwise_iff_getElem.1 h j i (by omega) (by omega) (by omega)
theorem nar_of {v:Int} (h:inI v):narS (ofI v)=(v,true):=by
  unfold narS ofI
  unfold inI at h
  simp only
  rw [if_pos]
  · rw [w64_eq]; congr 1; omega
  · split <;> omega
theorem of_self {r rows cols:Int} {T:List Triple} (h:Canon rows cols T) (hv:∀ t∈T,inI t.Val) (hr:1≤r∧r≤5):ofS r rows cols T=(builtS rows cols T,0):=by
  have hf:finS (SC r (T.map kvT)) mkT=(T,0):=by
    rw [SC_self h.srt]
    rw [fin_perm (m:=[]) (.refl _) (fun p hp=>by obtain ⟨t,ht,rfl⟩:=List.mem_map.1 hp; rw [nar_of (hv t ht)])]
    congr 1
    rw [List.map_map]
    refine (List.map_congr_left fun t ht=>?_).trans (List.map_id T)
    simp only [Function.comp_apply,nar_of (hv t ht)]
    rfl
  have h1:=h.r0; have h2:=h.r1; have h3:=h.c0; have h4:=h.c1; have h5:=h.len
  unfold ofS
  rw [if_neg (fun h=>h hr),if_neg (fun h=>h ⟨h1,h2,h3,h4⟩),if_neg (by omega),if_neg (fun h'=>h' h.inn),hf,if_neg (by simp)]
theorem turn_turn {rows cols:Int} {T:List Triple} (h:Canon rows cols T):turnT rows (turnT cols T)=T:=by
  refine srt_ext (turn_srt _ (turn_srt _ h.srt)) h.srt fun t=>?_
  rw [turn_mem (turn_canon h),turn_mem h]; rfl
theorem cut_mem {l h c d:Int} {T:List Triple} (t:Triple):t∈cutT l h c d T↔(⟨t.Row+l,t.Col+c,t.Val⟩:Triple)∈T∧(0≤t.Row∧t.Row+l<h)∧0≤t.Col∧t.Col+c<d:=by
  unfold cutT
  simp only [List.mem_map,List.mem_filter,decide_eq_true_eq]
  constructor
  · rintro ⟨u,⟨hu,hc⟩,rfl⟩
    simp only
    rw [show u.Row - l+l=u.Row by omega,show u.Col - c+c=u.Col by omega]
    exact ⟨hu,by omega,by omega,by omega⟩
  · rintro ⟨hm,hc⟩
    refine ⟨_,⟨hm,?_⟩,?_⟩
    · simp only; omega
    · cases t; simp only [Triple.mk.injEq]; exact ⟨by omega,by omega,trivial⟩
end Go.Proofs.YtpackolbhcmomaaGreat
