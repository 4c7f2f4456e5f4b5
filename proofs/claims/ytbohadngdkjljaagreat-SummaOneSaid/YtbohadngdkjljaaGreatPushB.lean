import Derived.Test.YtbohadngdkjljaaGreatOK
import Derived.Test.YtbohadngdkjljaaGreatCsrG
namespace Go.Proofs.YtbohadngdkjljaaGreat
open Go Go.Fw
set_option linter.unusedVariables false
set_option linter.unusedSimpArgs false
def KL (ts:List AC) (i:Nat):List AC:=ts.filter fun t=>decide (t.Row=i)
theorem AdL {ts:List AC} (h:Srt ts) (i:Nat) {lo hi:Nat} (hlo:EF ts i=lo) (hhi:EF ts (i+1)=hi) (hle:lo≤hi) (hl:hi≤ts.length):(ts.take hi).drop lo=KL ts i:=by
  have e:ts=ts.take lo++((ts.take hi).drop lo++ts.drop hi):=by
    have h1:ts.take lo=(ts.take hi).take lo:=by rw [List.take_take,Nat.min_eq_left hle]
    rw [←List.append_assoc,h1,List.take_append_drop,List.take_append_drop]
  have hr:∀ (p:Nat) (hp:p<ts.length),ts[p].Row=i↔lo≤p∧p<hi:=fun p hp=>by have:=h.at (i:=i) hp; omega
  unfold KL
  conv=>rhs; rw [e]
  rw [List.filter_append,List.filter_append,List.filter_eq_nil_iff.2,List.filter_eq_self.2,List.filter_eq_nil_iff.2]
  · simp
  · intro t ht
    obtain ⟨j,hj,rfl⟩:=List.getElem_of_mem ht
    simp only [List.getElem_drop,decide_eq_true_eq]
    rw [hr]; omega
  · intro t ht
    obtain ⟨j,hj,rfl⟩:=List.getElem_of_mem ht
    simp only [List.getElem_drop,List.getElem_take,decide_eq_true_eq]
    simp only [List.length_drop,List.length_take] at hj
    rw [hr]; omega
  · intro t ht
    obtain ⟨j,hj,rfl⟩:=List.getElem_of_mem ht
    simp only [List.getElem_take,decide_eq_true_eq]
    simp only [List.length_take] at hj
    rw [hr]; omega
structure Seg (ts:List AC) (i l u:Nat):Prop where
  lo:EF ts i=l
  hi:EF ts (i+1)=u
  le:l≤u
  len:u≤ts.length
  eq:(ts.take u).drop l=KL ts i
  row:∀ (p:Nat) (hp:p<ts.length),l≤p→p<u→ts[p].Row=i
theorem Canon.seg {rows cols:Int} {ts:List AC} (h:Canon rows cols ts) (i:Nat):∃ lo hi,Seg ts i lo hi:=by
  have hs:=WE i ts fun t ht=>(h.inn t ht).1
  have ha:=bY ts (i+1)
  have hb:=XU ts (i+1)
  obtain ⟨lo,hlo⟩:∃ lo:Nat,EF ts i=lo:=⟨_,rfl⟩
  obtain ⟨hi,hhi⟩:∃ hi:Nat,EF ts (i+1)=hi:=⟨_,rfl⟩
  exact ⟨lo,hi,hlo,hhi,by omega,by omega,AdL h.srt i hlo hhi (by omega) (by omega),fun p hp h1 h2=>by have:=h.srt.at (i:=i) hp; omega⟩
theorem Canon.sml {rows cols:Int} {ts:List AC} (h:Canon rows cols ts):QJ (AZ rows cols ts):=by
  have:=h.r0; have:=h.r1; have:=h.len
  unfold QJ AZ; simp; omega
theorem GC {rows cols:Int} {ts:List AC} {i:Nat} {K:Int→Prop} (h:(i:Int)≤rows) (hk:K (EF ts i)):BC (AZ rows cols ts).Start (i:Int) K:=
  AO (by omega) (OU (by simp; omega)) hk
theorem vL {rows cols:Int} {ts:List AC} {i:Nat} {Q:List Int×List Int→Prop} (h:Canon rows cols ts) (hi:(i:Int)<rows) (hQ:Q ((KL ts i).map (·.Col),(KL ts i).map (·.Val))):XN (AZ rows cols ts) i Q:=by
  unfold XN
  have hr:=h.r1
  obtain ⟨lo,hi',s⟩:=h.seg i
  have e1:AJ ((i:Int)+1)=(i+1:Nat):=by rw [AX (by omega) (by omega)]; omega
  rw [e1]
  refine GC (by omega) (GC (by omega) ?_)
  rw [s.lo,s.hi]
  have h1:=s.le; have h2:=s.len
  have hc:(AZ rows cols ts).Col.length=ts.length:=by simp [AZ]
  have hv:(AZ rows cols ts).Val.length=ts.length:=by simp [AZ]
  refine ⟨by omega,by omega,by omega,by omega,by omega,by omega,?_⟩
  simp only [Int.toNat_natCast,AZ,←List.map_take,←List.map_drop,s.eq]
  exact hQ
def RM (t:AC):CF:=⟨t.Col,t.Val⟩
def XW (rows:Int) (ts:List AC) (i:Int):List CF:=if 0≤i∧i<rows then (KL ts i.toNat).map RM else []
theorem OV (ts:List AC) (i:Nat):(KL ts i).length≤ts.length:=List.length_filter_le _ _
theorem sY {a:Rows} {rows cols i:Int} {ts:List AC} {Q:List CF→Prop} (hl:QJ a) (ha:VC a=AZ rows cols ts) (h:Canon rows cols ts) (hQ:Q (XW rows ts i)):gD a i Q:=by
  unfold gD
  have hr0:=h.r0; have hr1:=h.r1; have hlen:=h.len
  refine mY hl ?_
  rw [ha]
  have e:AJ ((AZ rows cols ts).Rows - 1)=rows - 1:=AX (by show -9223372036854775808≤rows - 1; omega) (by show rows - 1≤9223372036854775807; omega)
  rw [e]
  unfold XW at hQ
  refine JE (CS (fun hn=>?_) (fun hy=>?_))
  · have hn:¬(0≤i∧i≤rows - 1):=by simpa using hn
    rw [if_neg (by omega)] at hQ; exact hQ
  have hy:0≤i∧i≤rows - 1:=by simpa using hy
  rw [if_pos (by omega)] at hQ
  obtain ⟨n,rfl⟩:∃ n:Nat,i=n:=⟨i.toNat,by omega⟩
  rw [Int.toNat_natCast] at hQ
  refine vL h (by omega) ?_
  have hs:=OV ts n
  generalize KL ts n=xs at hQ hs
  refine BE (fun (s:List CF) i=>(s,i)) 0 xs.length (by omega) (fun i s=>s=(xs.take i).map RM) (by omega) rfl (fun i s next _ hi hm hn=>?_) (fun s next hm=>?_)
  · subst hm
    dsimp only
    refine AD (fun _=>?_) (fun h=>by simp at h; omega)
    refine AO (by omega) (x:=xs[i].Col) (by simp [hi]) (AO (by omega) (x:=xs[i].Val) (by simp [hi]) (BJ ?_ (hn _ ?_)))
    · simp; omega
    · rw [HE hi]; rfl
  · subst hm
    dsimp only
    refine AD (fun h=>by simp at h) (fun _=>?_)
    rw [List.take_length]; exact hQ
theorem pU {ts:List AC} {lo p:Nat} (h1:lo≤p) (h2:p<ts.length):(ts.take (p+1)).drop lo=(ts.take p).drop lo++[ts[p]]:=by
  rw [List.take_succ_eq_append_getElem h2,List.drop_append_of_le_length (by simp; omega)]
theorem sZ {a:Rows} {rows cols i:Int} {ts:List AC} {Q:List CF→Prop} (hl:QJ a) (ha:VC a=AZ rows cols ts) (h:Canon rows cols ts) (hQ:Q (XW rows ts i)):YM a i Q:=by
  unfold YM
  have hr0:=h.r0; have hr1:=h.r1; have hlen:=h.len
  refine PX hl ?_
  rw [ha]
  unfold XW at hQ
  refine AD (fun hn=>?_) (fun h1=>AD (fun (hn:rows≤i)=>?_) (fun (h2:¬rows≤i)=>?_))
  · rw [if_neg (by omega)] at hQ; exact hQ
  · rw [if_neg (by omega)] at hQ; exact hQ
  rw [if_pos (by omega)] at hQ
  obtain ⟨n,rfl⟩:∃ n:Nat,i=n:=⟨i.toNat,by omega⟩
  rw [Int.toNat_natCast] at hQ
  obtain ⟨lo,hi',s⟩:=h.seg n
  have e1:AJ ((n:Int)+1)=(n+1:Nat):=by rw [AX (by omega) (by omega)]; omega
  rw [e1]
  refine GC (by omega) ?_
  rw [s.lo]
  have g1:=s.le; have g2:=s.len
  refine BE (fun (s:List CF) i=>(s,i)) lo hi' (by omega) (fun p st=>st=((ts.take p).drop lo).map RM) (by omega) (s0:=[]) (by simp) (fun p st next hp1 hp2 hm hn=>?_) (fun st next hm=>?_)
  · subst hm
    dsimp only
    refine GC (by omega) ?_
    rw [s.hi]
    have hpl:p<ts.length:=by omega
    refine AD (fun _=>?_) (fun h=>by omega)
    refine AO (by omega) (x:=ts[p].Col) (by simp [AZ,hpl]) (AO (by omega) (x:=ts[p].Val) (by simp [AZ,hpl]) (BJ ?_ (hn _ ?_)))
    · simp; omega
    · rw [pU hp1 hpl,List.map_append]; rfl
  · subst hm
    dsimp only
    refine GC (by omega) ?_
    rw [s.hi]
    refine AD (fun h=>by omega) (fun _=>?_)
    rw [s.eq]; exact hQ
theorem XX {a:Rows} {rows cols:Int} {ts:List AC} {Q:List AC→Prop} (hl:QJ a) (ha:VC a=AZ rows cols ts) (h:Canon rows cols ts) (hQ:Q ts):MK a Q:=by
  unfold MK
  have hr0:=h.r0; have hr1:=h.r1; have hlen:=h.len
  refine mY hl ?_
  rw [ha]
  obtain ⟨n,hn⟩:∃ n:Nat,rows=n:=⟨rows.toNat,by omega⟩
  have hrw:(AZ rows cols ts).Rows=n:=hn
  rw [hrw]
  refine BE (fun (s:List AC) i=>(s,i)) 0 n (by omega) (fun i s=>s=ts.take (EF ts i).toNat) (by omega) (s0:=[]) (by rw [WF fun t ht=>(h.inn t ht).1]; rfl) (fun i s next _ hi hm hnx=>?_) (fun s next hm=>?_)
  · subst hm
    dsimp only
    refine AD (fun _=>?_) (fun h=>by omega)
    refine vL h (by omega) ?_
    obtain ⟨lo,hi',s⟩:=h.seg i
    have g1:=s.le; have g2:=s.len
    rw [s.lo,Int.toNat_natCast]
    have hsl:(KL ts i).length=hi' - lo:=by rw [←s.eq]; simp; omega
    have hgt:∀ (j:Nat) (hj:j<(KL ts i).length),(KL ts i)[j]=ts[lo+j]'(by omega):=fun j hj=>by simp [←s.eq]
    refine BE (fun (s:List AC) i=>(s,i)) 0 (KL ts i).length (by omega) (fun j st=>st=ts.take (lo+j)) (by omega) (by simp) (fun j st nx _ hj hm hnj=>?_) (fun st nx hm=>?_)
    · subst hm
      dsimp only
      refine AD (fun _=>?_) (fun h=>by simp at h; omega)
      have hpl:lo+j<ts.length:=by omega
      refine AO (by omega) (x:=ts[lo+j].Col) (by simp [hj,hgt]) (AO (by omega) (x:=ts[lo+j].Val) (by simp [hj,hgt]) (BJ ?_ (hnj _ ?_)))
      · simp; omega
      · rw [show lo+(j+1)=lo+j+1 by omega,List.take_succ_eq_append_getElem hpl]
        congr 2
        have:=s.row (lo+j) hpl (by omega) (by omega)
        rw [←this]
    · subst hm
      dsimp only
      refine AD (fun h=>by simp at h) (fun _=>hnx _ ?_)
      rw [s.hi,hsl,Int.toNat_natCast]; congr 1; omega
  · subst hm
    dsimp only
    refine AD (fun h=>by omega) (fun _=>?_)
    have hb:=YQ h
    rw [hn,Int.toNat_natCast] at hb
    rw [hb,Int.toNat_natCast,List.take_length]; exact hQ
theorem iK {a:Rows} {rows cols:Int} {ts:List AC} {Q:List AC→Prop} (hl:QJ a) (ha:VC a=AZ rows cols ts) (h:Canon rows cols ts) (hQ:Q ts):PE a Q:=by
  unfold PE
  have hr0:=h.r0; have hr1:=h.r1; have hlen:=h.len
  refine PX hl ?_
  rw [ha]
  obtain ⟨n,hn⟩:∃ n:Nat,rows=n:=⟨rows.toNat,by omega⟩
  have hrw:(AZ rows cols ts).Rows=n:=hn
  rw [hrw]
  refine BE (fun (s:List AC) i=>(s,i)) 0 n (by omega) (fun i s=>s=ts.take (EF ts i).toNat) (by omega) (s0:=[]) (by rw [WF fun t ht=>(h.inn t ht).1]; rfl) (fun i s next _ hi hm hnx=>?_) (fun s next hm=>?_)
  · subst hm
    dsimp only
    refine AD (fun _=>?_) (fun h=>by omega)
    obtain ⟨lo,hi',s⟩:=h.seg i
    have g1:=s.le; have g2:=s.len
    have e1:AJ ((i:Int)+1)=(i+1:Nat):=by rw [AX (by omega) (by omega)]; omega
    rw [e1] at hnx ⊢
    refine GC (by omega) ?_
    rw [s.lo,Int.toNat_natCast]
    refine BE (fun (s:List AC) i=>(s,i)) lo hi' (by omega) (fun p st=>st=ts.take p) (by omega) rfl (fun p st nx hp1 hp2 hm hnj=>?_) (fun st nx hm=>?_)
    · subst hm
      dsimp only
      refine GC (by omega) ?_
      rw [s.hi]
      have hpl:p<ts.length:=by omega
      refine AD (fun _=>?_) (fun h=>by omega)
      refine AO (by omega) (x:=ts[p].Col) (by simp [AZ,hpl]) (AO (by omega) (x:=ts[p].Val) (by simp [AZ,hpl]) (BJ ?_ (hnj _ ?_)))
      · simp; omega
      · rw [List.take_succ_eq_append_getElem hpl]
        congr 2
        have:=s.row p hpl (by omega) (by omega)
        rw [←this]
    · subst hm
      dsimp only
      refine GC (by omega) ?_
      rw [s.hi]
      refine AD (fun h=>by omega) (fun _=>hnx _ ?_)
      rw [s.hi,Int.toNat_natCast]
  · subst hm
    dsimp only
    refine AD (fun h=>by omega) (fun _=>?_)
    have hb:=YQ h
    rw [hn,Int.toNat_natCast] at hb
    rw [hb,Int.toNat_natCast,List.take_length]; exact hQ
def pV (ts:List AC) (i j:Int):Int×Bool:=match ts.find? (fun t=>decide (key t=(i,j))) with
  | some t=>(t.Val,true)
  | none=>(0,false)
theorem AbT {ts:List AC} (h:Srt ts) {t:AC} (ht:t∈ts) {i j:Int} (hk:key t=(i,j)):pV ts i j=(t.Val,true):=by
  unfold pV
  cases hf:ts.find? (fun t=>decide (key t=(i,j))) with
  | none=>
    have:=List.find?_eq_none.1 hf t ht
    simp [hk] at this
  | some u=>
    have hu:=List.mem_of_find?_eq_some hf
    have hku:=List.find?_some hf
    simp only [decide_eq_true_eq] at hku
    obtain ⟨p,hp,rfl⟩:=List.getElem_of_mem ht
    obtain ⟨q,hq,rfl⟩:=List.getElem_of_mem hu
    have hs:=List.pairwise_iff_getElem.1 h
    rcases Nat.lt_trichotomy p q with e | e | e
    · have:=hs p q hp hq e; rw [hk,hku] at this; exact absurd this (FC _)
    · subst e; rfl
    · have:=hs q p hq hp e; rw [hk,hku] at this; exact absurd this (FC _)
theorem zL {ts:List AC} {i j:Int} (h:∀ t∈ts,key t≠(i,j)):pV ts i j=(0,false):=by
  unfold pV
  rw [List.find?_eq_none.2 (by simpa using h)]
theorem iL {a:Rows} {rows cols i j:Int} {ts:List AC} {Q:Int×Bool→Prop} (hl:QJ a) (ha:VC a=AZ rows cols ts) (h:Canon rows cols ts) (hQ:Q (pV ts i j)):RL a i j Q:=by
  unfold RL
  have hr0:=h.r0; have hr1:=h.r1; have hlen:=h.len
  refine sZ hl ha h ?_
  have hlr:(XW rows ts i).length≤ts.length:=by
    unfold XW; split
    · have:=OV ts i.toNat; simpa using this
    · simp
  refine EO (XW rows ts i).length (by omega) (fun q=>∀ (p:Nat) (hp:p<(XW rows ts i).length),p<q→(XW rows ts i)[p].At≠j) (by simp) (fun q next hq hR hn=>?_) (fun next hR=>?_)
  · refine AD (fun _=>?_) (fun h=>by omega)
    refine BH hq (BU (fun e=>BH hq ?_) (fun e=>hn fun p hp hpq=>?_))
    · have hm:(XW rows ts i)[q]∈XW rows ts i:=List.getElem_mem hq
      generalize (XW rows ts i)[q]=x at e hm
      unfold XW at hm
      split at hm
      · rename_i hin
        obtain ⟨t,ht,rfl⟩:=List.mem_map.1 hm
        have ht2:=List.mem_filter.1 ht
        have hrow:t.Row=i:=by have:=ht2.2; simp only [decide_eq_true_eq] at this; omega
        have hcol:t.Col=j:=e
        rw [AbT h.srt ht2.1 (by unfold key; rw [hrow,hcol])] at hQ
        exact hQ
      · simp at hm
    · by_cases e':p=q
      · subst e'; exact e
      · exact hR p hp (by omega)
  · refine AD (fun h=>by omega) (fun _=>?_)
    rw [zL fun t ht hk=>?_] at hQ
    · exact hQ
    · have hin:=h.inn t ht
      unfold UM at hin
      unfold key at hk
      simp only [Prod.mk.injEq] at hk
      have hm:RM t∈XW rows ts i:=by
        unfold XW
        rw [if_pos (by omega)]
        exact List.mem_map_of_mem (List.mem_filter.2 ⟨ht,by simp; omega⟩)
      obtain ⟨q,hq,e⟩:=List.getElem_of_mem hm
      exact hR q hq hq (by rw [e]; exact hk.2)
theorem Srt.nodup {l:List AC} (h:Srt l):l.Nodup:=by
  rw [List.nodup_iff_pairwise_ne]
  exact List.Pairwise.imp (R:=fun a b=>PV (key a) (key b)) (fun {a b} hab (e:a=b)=>FC (key b) (by rw [e] at hab; exact hab)) h
theorem AbU {l l':List AC} (h:Srt l) (h':Srt l') (he:∀ t,t∈l↔t∈l'):l=l':=
  dJ ((List.perm_ext_iff_of_nodup h.nodup h'.nodup).2 he) h h' fun a b _ _ h1 h2=>absurd (MT h1 h2) (FC _)
theorem FT {rows cols:Int} {ts:List AC} (h:Canon rows cols ts):VC (AZ rows cols ts)=AZ rows cols ts:=by
  unfold VC; rw [if_pos h.right]
def jY (l:Int):Int:=if 0 > l then 0 else l
def oO (h n:Int):Int:=if n<h then n else h
def ext (l h n:Int):Int:=if jY l<oO h n then oO h n - jY l else 0
def LM (l h c d:Int) (ts:List AC):List AC:=(ts.filter fun t=>decide ((l≤t.Row∧t.Row<h)∧(c≤t.Col∧t.Col<d))).map fun t=>⟨t.Row - l,t.Col - c,t.Val⟩
def mZ (rows cols:Int) (ts:List AC) (p q:Int×Int):Rows:=AZ (ext p.1 p.2 rows) (ext q.1 q.2 cols) (LM (jY p.1) (oO p.2 rows) (jY q.1) (oO q.2 cols) ts)
theorem iM (l h n:Int) (hn:0≤n) (h1:n≤4096):0≤ext l h n∧ext l h n≤n∧0≤jY l∧oO h n≤n:=by
  unfold ext jY oO; (repeat' split) <;> omega
theorem lE {rows cols:Int} {ts:List AC} (h:Canon rows cols ts) (p q:Int×Int):Canon (ext p.1 p.2 rows) (ext q.1 q.2 cols) (LM (jY p.1) (oO p.2 rows) (jY q.1) (oO q.2 cols) ts):=by
  have h1:=iM p.1 p.2 rows h.r0 h.r1
  have h2:=iM q.1 q.2 cols h.c0 h.c1
  have h3:=h.r1; have h4:=h.c1
  refine ⟨by omega,by omega,by omega,by omega,?_,?_,?_⟩
  · have:=h.len
    unfold LM
    rw [List.length_map]
    exact Nat.le_trans (List.length_filter_le _ _) this
  · unfold Srt LM
    rw [List.pairwise_map]
    refine List.Pairwise.imp (fun {a b} hab=>?_) (List.Pairwise.filter (R:=fun a b=>PV (key a) (key b)) _ h.srt)
    unfold PV key at *
    simp only at *
    omega
  · intro t ht
    obtain ⟨u,hu,rfl⟩:=List.mem_map.1 ht
    have hc:=(List.mem_filter.1 hu).2
    simp only [decide_eq_true_eq] at hc
    have e1:ext p.1 p.2 rows=oO p.2 rows - jY p.1:=by unfold ext; rw [if_pos (by omega)]
    have e2:ext q.1 q.2 cols=oO q.2 cols - jY q.1:=by unfold ext; rw [if_pos (by omega)]
    unfold UM
    simp only
    omega
theorem lF {p:Int×Int} {n:Int} {Q:Int×Int→Prop} (h0:0≤n) (h1:n≤4096) (hQ:Q (jY p.1,ext p.1 p.2 n)):SA p n Q:=by
  unfold SA
  show AR (decide (oO p.2 n≤jY p.1)) (Q (jY p.1,0)) (Q (jY p.1,AJ (oO p.2 n - jY p.1)))
  have hb:=iM p.1 p.2 n h0 h1
  unfold ext at hQ
  refine AD (fun h=>?_) (fun h=>?_)
  · rwa [if_neg (by omega)] at hQ
  · rw [if_pos (by omega)] at hQ
    rwa [AX (by omega) (by omega)]
def iN (c d:Int) (t:AC):Bool:=decide (c≤t.Col∧t.Col<d)
def shf (l c:Int) (t:AC):AC:=⟨t.Row - l,t.Col - c,t.Val⟩
theorem zM {ts:List AC} (h:Srt ts) (l c d:Int) (v:Nat) (hv:l≤v):LM l ((v:Int)+1) c d ts=LM l v c d ts++((KL ts v).filter (iN c d)).map (shf l c):=by
  unfold LM
  rw [show (fun t:AC=>(⟨t.Row - l,t.Col - c,t.Val⟩:AC))=shf l c from rfl,←List.map_append]
  congr 1
  refine AbU (List.Pairwise.filter _ h) (List.pairwise_append.2 ⟨List.Pairwise.filter _ h,List.Pairwise.filter _ (List.Pairwise.filter _ h),fun a ha b hb=>?_⟩) fun t=>?_
  · have h1:=(List.mem_filter.1 ha).2
    have h2:=(List.mem_filter.1 (List.mem_filter.1 hb).1).2
    simp only [decide_eq_true_eq] at h1 h2
    unfold PV key
    simp only
    omega
  · unfold KL iN
    simp only [List.mem_append,List.mem_filter,decide_eq_true_eq]
    constructor
    · rintro ⟨h1,h2⟩
      by_cases e:t.Row=v
      · exact .inr ⟨⟨h1,e⟩,h2.2⟩
      · exact .inl ⟨h1,by omega,h2.2⟩
    · rintro (⟨h1,h2⟩ | ⟨⟨h1,h2⟩,h3⟩)
      · exact ⟨h1,by omega,h2.2⟩
      · exact ⟨h1,by omega,h3⟩
theorem nA {ts:List AC} {l h c d:Int} (hh:h≤l):LM l h c d ts=[]:=by
  unfold LM
  rw [List.filter_eq_nil_iff.2]; · rfl
  intro t ht
  simp only [decide_eq_true_eq]; omega
theorem WG {a:Rows} {rows cols:Int} {ts:List AC} {p q:Int×Int} {Q:Rows→Prop} (hl:QJ a) (ha:VC a=AZ rows cols ts) (h:Canon rows cols ts) (hQ:Q (mZ rows cols ts p q)):LW a p q Q:=by
  unfold LW
  have hlen:=h.len
  have hr1:=h.r1; have hc1:=h.c1
  have b1:=iM p.1 p.2 rows h.r0 h.r1
  have b2:=iM q.1 q.2 cols h.c0 h.c1
  refine mY hl ?_
  rw [ha]
  refine lF h.r0 h.r1 (lF h.c0 h.c1 ?_)
  show BK _ _
  have hcan:=lE h p q
  unfold mZ at hQ
  have hrl:(AZ rows cols ts).Rows=rows:=rfl
  have hcl:(AZ rows cols ts).Cols=cols:=rfl
  rw [hcl,hrl]
  generalize hL:jY p.1=L at *
  generalize hH:oO p.2 rows=H at *
  generalize hC:jY q.1=C at *
  generalize hD:oO q.2 cols=D at *
  have eE:ext p.1 p.2 rows=if L<H then H - L else 0:=by unfold ext; rw [hL,hH]
  have eF:ext q.1 q.2 cols=if C<D then D - C else 0:=by unfold ext; rw [hC,hD]
  generalize ext p.1 p.2 rows=E at *
  generalize ext q.1 q.2 cols=F at *
  dsimp only
  obtain ⟨n,hn⟩:∃ n:Nat,E=n:=⟨E.toNat,by omega⟩
  rw [hn]
  refine BE (fun (s:List AC) i=>(s,i)) 0 n (by omega) (fun i s=>s=LM L (L+(i:Nat)) C D ts) (by omega) (s0:=[]) (by rw [nA (by omega)]) (fun i s next _ hi hm hnx=>?_) (fun s next hm=>?_)
  · subst hm
    dsimp only
    have hLH:L<H∧E=H - L:=by
      by_cases e:L<H
      · rw [if_pos e] at eE; exact ⟨e,eE⟩
      · rw [if_neg e] at eE; omega
    obtain ⟨v,hv⟩:∃ v:Nat,L+(i:Int)=v:=⟨(L+i).toNat,by omega⟩
    have e1:AJ (L+(i:Int))=v:=by rw [AX (by omega) (by omega)]; exact hv
    rw [e1]
    refine AD (fun _=>?_) (fun h=>by omega)
    refine sY h.sml (FT h) h ?_
    have erow:XW rows ts v=(KL ts v).map RM:=by unfold XW; rw [if_pos (by omega),Int.toNat_natCast]
    rw [erow]
    have hsl:=OV ts v
    have hrow:∀ t∈KL ts v,t.Row=v:=fun t ht=>by simpa using (List.mem_filter.1 ht).2
    have hin:∀ t∈KL ts v,UM rows cols t:=fun t ht=>h.inn t (List.mem_filter.1 ht).1
    have hcut:=zM h.srt L C D v (by omega)
    rw [show (v:Int)+1=L+((i+1:Nat):Int) by omega] at hcut
    rw [hcut] at hnx
    have hacc:(LM L v C D ts).length≤ts.length:=by
      unfold LM
      rw [List.length_map]
      exact List.length_filter_le _ _
    rw [hv]
    generalize LM L v C D ts=acc at hnx hacc
    generalize KL ts v=xs at *
    refine BE (fun (s:List AC) i=>(s,i)) 0 xs.length (by omega) (fun j s=>s=acc++((xs.take j).filter (iN C D)).map (shf L C)) (by omega) (by simp) (fun j s nx _ hj hm hnj=>?_) (fun s nx hm=>?_)
    · subst hm
      dsimp only
      refine AD (fun _=>?_) (fun h=>by simp at h; omega)
      have hm:=List.getElem_mem hj
      have hi1:=hin _ hm
      have hr:=hrow _ hm
      unfold UM at hi1
      have hst:(xs.take (j+1)).filter (iN C D)=(xs.take j).filter (iN C D)++if iN C D xs[j]=true then [xs[j]] else []:=by
        rw [List.take_succ_eq_append_getElem hj,List.filter_append,List.filter_cons,List.filter_nil]
      refine AO (by omega) (x:=RM xs[j]) (by simp [hj]) ?_
      have eAt:(RM xs[j]).At=xs[j].Col:=rfl
      have eVal:(RM xs[j]).Val=xs[j].Val:=rfl
      rw [eAt,eVal]
      refine ED (fun b=>b=iN C D xs[j]) ?_ fun k hk=>?_
      · rintro _ rfl
        refine ⟨fun hc=>BJ ?_ (hnj _ ?_),fun hc=>hnj _ ?_⟩
        · have:=List.length_filter_le (iN C D) (xs.take j)
          have h4:(xs.take j).length≤xs.length:=by simp; omega
          simp only [List.length_append,List.length_map,List.length_singleton]
          omega
        · have hc':C≤xs[j].Col∧xs[j].Col<D:=by simpa [iN] using hc
          rw [hst,if_pos hc,List.map_append,List.append_assoc,AX (x:=xs[j].Col - C) (by omega) (by omega)]
          have:(⟨(i:Int),xs[j].Col - C,xs[j].Val⟩:AC)=shf L C xs[j]:=by unfold shf; rw [show (i:Int)=xs[j].Row - L by omega]
          rw [this]; rfl
        · rw [hst,if_neg (by simp [hc]),List.append_nil]
      · refine AD (fun hc=>hk _ ?_) (fun hc=>hk _ ?_)
        · unfold iN
          apply decide_eq_decide.2
          rw [eF,AX (x:=xs[j].Col - C) (by omega) (by omega)]
          split <;> omega
        · unfold iN; symm; apply decide_eq_false; omega
    · subst hm
      dsimp only
      refine AD (fun h=>by simp at h) (fun _=>hnx _ ?_)
      rw [List.take_length]
  · subst hm
    dsimp only
    refine AD (fun h=>by omega) (fun _=>?_)
    have e:LM L (L+(n:Int)) C D ts=LM L H C D ts:=by
      by_cases e:L<H
      · rw [if_pos e] at eE; rw [show L+(n:Int)=H by omega]
      · rw [if_neg e] at eE; rw [nA (by omega),nA (by omega)]
    rw [e]
    rw [hn] at hcan hQ
    refine pR (by omega) (by omega) (by have:=hcan.len; omega) (fun t ht=>?_) hQ
    have:=hcan.inn t ht
    unfold UM at this
    exact ⟨this.1,this.2.1⟩
theorem wU {r rows cols:Int} {kvs:List (IC×Int)} (h:0≤rows∧rows≤4096∧0≤cols∧cols≤4096) (hl:kvs.length≤65536) (hk:∀ t∈kvs,UM rows cols (rX t.1 0)) (hv:∀ t∈kvs,HJ t.2):Canon rows cols (PW (SC r kvs) rX).1:=by
  refine ⟨h.1,h.2.1,h.2.2.1,h.2.2.2,?_,?_,?_⟩
  · exact Nat.le_trans (mW _) (by have:=(WD r kvs hv).1; omega)
  · unfold PW
    split
    · unfold Srt
      rw [List.pairwise_map]
      exact mS r kvs
    · exact .nil
  · intro t ht
    unfold PW at ht
    split at ht
    · obtain ⟨p,hp,rfl⟩:=List.mem_map.1 ht
      obtain ⟨x,hx,e⟩:=vI hp
      have:=hk x hx
      unfold UM rX at *
      rw [←e]
      exact this
    · simp at ht
theorem AbV {x:Int} (h:WS .i64 x):HJ x:=by have:=bounds_i64 h; unfold HJ; omega
theorem AdM {ts:List AC} {Q:List AC→Prop} (hQ:∀ ys:List AC,ys.length≤60→(∀ t∈ys,t∈ts)→Q ys):YN ts Q:=by
  unfold YN
  refine AD (fun h=>⟨by decide,by decide,by omega,hQ _ ?_ fun t ht=>?_⟩) (fun h=>hQ _ (by omega) fun t ht=>ht)
  · simp; omega
  · exact List.mem_of_mem_take (List.mem_of_mem_drop ht)
theorem zN:QJ zR:=⟨by decide,by decide,by decide⟩
theorem zO:¬QE zR:=fun h=>by have:=h.sl; simp [zR] at this
theorem zP {r rows cols:Int} {ts:List AC} (hv:∀ t∈ts,HJ t.Val):((zI r rows cols ts).1=zR∧(zI r rows cols ts).2≠0)∨∃ T,Canon rows cols T∧zI r rows cols ts=(AZ rows cols T,0)∧(1≤r∧r≤5)∧(∀ t∈ts,UM rows cols t)∧ts.length≤65536∧(0≤rows∧rows≤4096∧0≤cols∧cols≤4096)∧T=(PW (SC r (ts.map fN)) rX).1∧(PW (SC r (ts.map fN)) rX).2=0:=by
  unfold zI
  split
  · left; exact ⟨rfl,by simp⟩
  split
  · left; exact ⟨rfl,by simp⟩
  split
  · left; exact ⟨rfl,by simp⟩
  split
  · left; exact ⟨rfl,by simp⟩
  split
  · rename_i h; left; exact ⟨rfl,h⟩
  · rename_i h1 h2 h3 h4 h5
    right
    have h2:=Decidable.of_not_not h2
    have h4:=Decidable.of_not_not h4
    refine ⟨_,wU h2 (by simpa using h3) (fun t ht=>?_) (fun t ht=>?_),rfl,Decidable.of_not_not h1,h4,by omega,h2,rfl,Decidable.of_not_not h5⟩
    · obtain ⟨x,hx,rfl⟩:=List.mem_map.1 ht
      exact h4 x hx
    · obtain ⟨x,hx,rfl⟩:=List.mem_map.1 ht
      exact hv x hx
theorem AbW (a:AN):HJ (OT a).1:=by
  unfold OT HJ
  split
  · simp only [GM]; omega
  · simp
theorem zQ {r:Int} {k:IC} {v:AN} {l:List (IC×AN)} (h:∀ p∈l,PV p.1 k):ins r k v l=l++[(k,v)]:=by
  induction l with
  | nil=>rfl
  | cons p l ih=>unfold ins; rw [if_pos (h p (by simp)),ih fun q hq=>h q (by simp [hq])]; rfl
theorem AbX {r:Int} {T:List AC} (h:Srt T):SC r (T.map fN)=T.map fun t=>(key t,aX t.Val):=by
  suffices ∀ i,i≤T.length→SC r ((T.take i).map fN)=(T.take i).map fun t=>(key t,aX t.Val) by
    have:=this T.length (Nat.le_refl _)
    rwa [List.take_length] at this
  intro i
  induction i with
  | zero=>intro _; rfl
  | succ i ih=>
    intro hi
    rw [HE (show i<T.length by omega),HE (show i<T.length by omega),mQ,ih (by omega),zQ]
    · rfl
    · intro p hp
      obtain ⟨t,ht,rfl⟩:=List.mem_map.1 hp
      obtain ⟨j,hj,rfl⟩:=List.getElem_of_mem ht
      simp only [List.length_take] at hj
      rw [List.getElem_take]
      exact List.pairwise_iff_getElem.1 h j i (by omega) (by omega) (by omega)
theorem zT {v:Int} (h:HJ v):OT (aX v)=(v,true):=by
  unfold OT aX
  unfold HJ at h
  simp only
  rw [if_pos]
  · rw [GM]; congr 1; omega
  · split <;> omega
theorem gG {r rows cols:Int} {T:List AC} (h:Canon rows cols T) (hv:∀ t∈T,HJ t.Val) (hr:1≤r∧r≤5):zI r rows cols T=(AZ rows cols T,0):=by
  have hf:PW (SC r (T.map fN)) rX=(T,0):=by
    rw [AbX h.srt]
    rw [iH (m:=[]) (.refl _) (fun p hp=>by obtain ⟨t,ht,rfl⟩:=List.mem_map.1 hp; rw [zT (hv t ht)])]
    congr 1
    rw [List.map_map]
    refine (List.map_congr_left fun t ht=>?_).trans (List.map_id T)
    simp only [Function.comp_apply,zT (hv t ht)]
    rfl
  have h1:=h.r0; have h2:=h.r1; have h3:=h.c0; have h4:=h.c1; have h5:=h.len
  unfold zI
  rw [if_neg (fun h=>h hr),if_neg (fun h=>h ⟨h1,h2,h3,h4⟩),if_neg (by omega),if_neg (fun h'=>h' h.inn),hf,if_neg (by simp)]
theorem vN {l h c d:Int} {T:List AC} (t:AC):t∈LM l h c d T↔(⟨t.Row+l,t.Col+c,t.Val⟩:AC)∈T∧(0≤t.Row∧t.Row+l<h)∧0≤t.Col∧t.Col+c<d:=by
  unfold LM
  simp only [List.mem_map,List.mem_filter,decide_eq_true_eq]
  constructor
  · rintro ⟨u,⟨hu,hc⟩,rfl⟩
    simp only
    rw [show u.Row - l+l=u.Row by omega,show u.Col - c+c=u.Col by omega]
    exact ⟨hu,by omega,by omega,by omega⟩
  · rintro ⟨hm,hc⟩
    refine ⟨_,⟨hm,?_⟩,?_⟩
    · simp only; omega
    · cases t; simp only [AC.mk.injEq]; exact ⟨by omega,by omega,trivial⟩
def fO (r:Int):Option AN→Option AN→Option AN
  | none,y=>y
  | some a,none=>some a
  | some a,some b=>some (GN r a b)
theorem NL (r:Int) (a:Option AN):fO r a none=a:=by cases a <;> rfl
end Go.Proofs.YtbohadngdkjljaaGreat
