import Derived.Test.YtbohadngdkjljaaGreatOK
import Derived.Test.YtbohadngdkjljaaGreatCsrG
namespace Go.Proofs.YtbohadngdkjljaaGreat
open Go Go.Fw
set_option linter.unusedVariables false
set_option linter.unusedSimpArgs false
def KH (ts:List AC) (i:Nat):List AC:=ts.filter fun t=>decide (t.Row=i)
theorem AcM {ts:List AC} (h:Srt ts) (i:Nat) {lo hi:Nat} (hlo:EG ts i=lo) (hhi:EG ts (i+1)=hi) (hle:lo≤hi) (hl:hi≤ts.length):(ts.take hi).drop lo=KH ts i:=by
  have e:ts=ts.take lo++((ts.take hi).drop lo++ts.drop hi):=by
    have h1:ts.take lo=(ts.take hi).take lo:=by rw [List.take_take,Nat.min_eq_left hle]
    rw [←List.append_assoc,h1,List.take_append_drop,List.take_append_drop]
  have hr:∀ (p:Nat) (hp:p<ts.length),ts[p].Row=i↔lo≤p∧p<hi:=fun p hp=>by have:=h.at (i:=i) hp; omega
  unfold KH
  conv=>rhs; rw [e]
  rw [List.filter_append,List.filter_append,List.filter_eq_nil_iff.2,List.filter_eq_self.2,List.filter_eq_nil_iff.2]
  · simp
  · intro t ht
    obtain ⟨j,hj,rfl⟩:=List.getElem_of_mem ht
    simp only [List.getElem_drop,decide_eq_true_eq]
    rw [hr]; omega
  · intro t ht
    obtain ⟨j,hj,rfl⟩:=List.getElem_of_mem ht
    simp only [List.getElem_drop,List.getElem_take,decide_eq_true_eq]
    simp only [List.length_drop,List.length_take] at hj
    rw [hr]; omega
  · intro t ht
    obtain ⟨j,hj,rfl⟩:=List.getElem_of_mem ht
    simp only [List.getElem_take,decide_eq_true_eq]
    simp only [List.length_take] at hj
    rw [hr]; omega
structure Seg (ts:List AC) (i l u:Nat):Prop where
  lo:EG ts i=l
  hi:EG ts (i+1)=u
  le:l≤u
  len:u≤ts.length
  eq:(ts.take u).drop l=KH ts i
  row:∀ (p:Nat) (hp:p<ts.length),l≤p→p<u→ts[p].Row=i
theorem Canon.seg {rows cols:Int} {ts:List AC} (h:Canon rows cols ts) (i:Nat):∃ lo hi,Seg ts i lo hi:=by
  have hs:=VD i ts fun t ht=>(h.inn t ht).1
  have ha:=aP ts (i+1)
  have hb:=WU ts (i+1)
  obtain ⟨lo,hlo⟩:∃ lo:Nat,EG ts i=lo:=⟨_,rfl⟩
  obtain ⟨hi,hhi⟩:∃ hi:Nat,EG ts (i+1)=hi:=⟨_,rfl⟩
  exact ⟨lo,hi,hlo,hhi,by omega,by omega,AcM h.srt i hlo hhi (by omega) (by omega),fun p hp h1 h2=>by have:=h.srt.at (i:=i) hp; omega⟩
theorem Canon.sml {rows cols:Int} {ts:List AC} (h:Canon rows cols ts):RU (BF rows cols ts):=by
  have:=h.r0; have:=h.r1; have:=h.len
  unfold RU BF; simp; omega
theorem OA {rows cols:Int} {ts:List AC} {i:Nat} {K:Int→Prop} (h:(i:Int)≤rows) (hk:K (EG ts i)):BD (BF rows cols ts).Start (i:Int) K:=
  AM (by omega) (NZ (by simp; omega)) hk
theorem tV {rows cols:Int} {ts:List AC} {i:Nat} {Q:List Int×List Int→Prop} (h:Canon rows cols ts) (hi:(i:Int)<rows) (hQ:Q ((KH ts i).map (·.Col),(KH ts i).map (·.Val))):WM (BF rows cols ts) i Q:=by
  unfold WM
  have hr:=h.r1
  obtain ⟨lo,hi',s⟩:=h.seg i
  have e1:AJ ((i:Int)+1)=(i+1:Nat):=by rw [AV (by omega) (by omega)]; omega
  rw [e1]
  refine OA (by omega) (OA (by omega) ?_)
  rw [s.lo,s.hi]
  have h1:=s.le; have h2:=s.len
  have hc:(BF rows cols ts).Col.length=ts.length:=by simp [BF]
  have hv:(BF rows cols ts).Val.length=ts.length:=by simp [BF]
  refine ⟨by omega,by omega,by omega,by omega,by omega,by omega,?_⟩
  simp only [Int.toNat_natCast,BF,←List.map_take,←List.map_drop,s.eq]
  exact hQ
def UP (t:AC):CE:=⟨t.Col,t.Val⟩
def WW (rows:Int) (ts:List AC) (i:Int):List CE:=if 0≤i∧i<rows then (KH ts i.toNat).map UP else []
theorem OB (ts:List AC) (i:Nat):(KH ts i).length≤ts.length:=List.length_filter_le _ _
theorem rJ {a:Rows} {rows cols i:Int} {ts:List AC} {Q:List CE→Prop} (hl:RU a) (ha:VU a=BF rows cols ts) (h:Canon rows cols ts) (hQ:Q (WW rows ts i)):eT a i Q:=by
  unfold eT
  have hr0:=h.r0; have hr1:=h.r1; have hlen:=h.len
  refine lV hl ?_
  rw [ha]
  have e:AJ ((BF rows cols ts).Rows - 1)=rows - 1:=AV (by show -9223372036854775808≤rows - 1; omega) (by show rows - 1≤9223372036854775807; omega)
  rw [e]
  unfold WW at hQ
  refine IU (CR (fun hn=>?_) (fun hy=>?_))
  · have hn:¬(0≤i∧i≤rows - 1):=by simpa using hn
    rw [if_neg (by omega)] at hQ; exact hQ
  have hy:0≤i∧i≤rows - 1:=by simpa using hy
  rw [if_pos (by omega)] at hQ
  obtain ⟨n,rfl⟩:∃ n:Nat,i=n:=⟨i.toNat,by omega⟩
  rw [Int.toNat_natCast] at hQ
  refine tV h (by omega) ?_
  have hs:=OB ts n
  generalize KH ts n=xs at hQ hs
  refine BH (fun (s:List CE) i=>(s,i)) 0 xs.length (by omega) (fun i s=>s=(xs.take i).map UP) (by omega) rfl (fun i s next _ hi hm hn=>?_) (fun s next hm=>?_)
  · subst hm
    dsimp only
    refine AD (fun _=>?_) (fun h=>by simp at h; omega)
    refine AM (by omega) (x:=xs[i].Col) (by simp [hi]) (AM (by omega) (x:=xs[i].Val) (by simp [hi]) (BI ?_ (hn _ ?_)))
    · simp; omega
    · rw [GX hi]; rfl
  · subst hm
    dsimp only
    refine AD (fun h=>by simp at h) (fun _=>?_)
    rw [List.take_length]; exact hQ
theorem yC {ts:List AC} {lo p:Nat} (h1:lo≤p) (h2:p<ts.length):(ts.take (p+1)).drop lo=(ts.take p).drop lo++[ts[p]]:=by
  rw [List.take_succ_eq_append_getElem h2,List.drop_append_of_le_length (by simp; omega)]
theorem rK {a:Rows} {rows cols i:Int} {ts:List AC} {Q:List CE→Prop} (hl:RU a) (ha:VU a=BF rows cols ts) (h:Canon rows cols ts) (hQ:Q (WW rows ts i)):XW a i Q:=by
  unfold XW
  have hr0:=h.r0; have hr1:=h.r1; have hlen:=h.len
  refine oP hl ?_
  rw [ha]
  unfold WW at hQ
  refine AD (fun hn=>?_) (fun h1=>AD (fun (hn:rows≤i)=>?_) (fun (h2:¬rows≤i)=>?_))
  · rw [if_neg (by omega)] at hQ; exact hQ
  · rw [if_neg (by omega)] at hQ; exact hQ
  rw [if_pos (by omega)] at hQ
  obtain ⟨n,rfl⟩:∃ n:Nat,i=n:=⟨i.toNat,by omega⟩
  rw [Int.toNat_natCast] at hQ
  obtain ⟨lo,hi',s⟩:=h.seg n
  have e1:AJ ((n:Int)+1)=(n+1:Nat):=by rw [AV (by omega) (by omega)]; omega
  rw [e1]
  refine OA (by omega) ?_
  rw [s.lo]
  have g1:=s.le; have g2:=s.len
  refine BH (fun (s:List CE) i=>(s,i)) lo hi' (by omega) (fun p st=>st=((ts.take p).drop lo).map UP) (by omega) (s0:=[]) (by simp) (fun p st next hp1 hp2 hm hn=>?_) (fun st next hm=>?_)
  · subst hm
    dsimp only
    refine OA (by omega) ?_
    rw [s.hi]
    have hpl:p<ts.length:=by omega
    refine AD (fun _=>?_) (fun h=>by omega)
    refine AM (by omega) (x:=ts[p].Col) (by simp [BF,hpl]) (AM (by omega) (x:=ts[p].Val) (by simp [BF,hpl]) (BI ?_ (hn _ ?_)))
    · simp; omega
    · rw [yC hp1 hpl,List.map_append]; rfl
  · subst hm
    dsimp only
    refine OA (by omega) ?_
    rw [s.hi]
    refine AD (fun h=>by omega) (fun _=>?_)
    rw [s.eq]; exact hQ
theorem WX {a:Rows} {rows cols:Int} {ts:List AC} {Q:List AC→Prop} (hl:RU a) (ha:VU a=BF rows cols ts) (h:Canon rows cols ts) (hQ:Q ts):LU a Q:=by
  unfold LU
  have hr0:=h.r0; have hr1:=h.r1; have hlen:=h.len
  refine lV hl ?_
  rw [ha]
  obtain ⟨n,hn⟩:∃ n:Nat,rows=n:=⟨rows.toNat,by omega⟩
  have hrw:(BF rows cols ts).Rows=n:=hn
  rw [hrw]
  refine BH (fun (s:List AC) i=>(s,i)) 0 n (by omega) (fun i s=>s=ts.take (EG ts i).toNat) (by omega) (s0:=[]) (by rw [Z7 fun t ht=>(h.inn t ht).1]; rfl) (fun i s next _ hi hm hnx=>?_) (fun s next hm=>?_)
  · subst hm
    dsimp only
    refine AD (fun _=>?_) (fun h=>by omega)
    refine tV h (by omega) ?_
    obtain ⟨lo,hi',s⟩:=h.seg i
    have g1:=s.le; have g2:=s.len
    rw [s.lo,Int.toNat_natCast]
    have hsl:(KH ts i).length=hi' - lo:=by rw [←s.eq]; simp; omega
    have hgt:∀ (j:Nat) (hj:j<(KH ts i).length),(KH ts i)[j]=ts[lo+j]'(by omega):=fun j hj=>by simp [←s.eq]
    refine BH (fun (s:List AC) i=>(s,i)) 0 (KH ts i).length (by omega) (fun j st=>st=ts.take (lo+j)) (by omega) (by simp) (fun j st nx _ hj hm hnj=>?_) (fun st nx hm=>?_)
    · subst hm
      dsimp only
      refine AD (fun _=>?_) (fun h=>by simp at h; omega)
      have hpl:lo+j<ts.length:=by omega
      refine AM (by omega) (x:=ts[lo+j].Col) (by simp [hj,hgt]) (AM (by omega) (x:=ts[lo+j].Val) (by simp [hj,hgt]) (BI ?_ (hnj _ ?_)))
      · simp; omega
      · rw [show lo+(j+1)=lo+j+1 by omega,List.take_succ_eq_append_getElem hpl]
        congr 2
        have:=s.row (lo+j) hpl (by omega) (by omega)
        rw [←this]
    · subst hm
      dsimp only
      refine AD (fun h=>by simp at h) (fun _=>hnx _ ?_)
      rw [s.hi,hsl,Int.toNat_natCast]; congr 1; omega
  · subst hm
    dsimp only
    refine AD (fun h=>by omega) (fun _=>?_)
    have hb:=cD h
    rw [hn,Int.toNat_natCast] at hb
    rw [hb,Int.toNat_natCast,List.take_length]; exact hQ
def vJ (ts:List AC) (i j:Int):Int×Bool:=match ts.find? (fun t=>decide (key t=(i,j))) with
  | some t=>(t.Val,true)
  | none=>(0,false)
theorem AaU {ts:List AC} (h:Srt ts) {t:AC} (ht:t∈ts) {i j:Int} (hk:key t=(i,j)):vJ ts i j=(t.Val,true):=by
  unfold vJ
  cases hf:ts.find? (fun t=>decide (key t=(i,j))) with
  | none=>
    have:=List.find?_eq_none.1 hf t ht
    simp [hk] at this
  | some u=>
    have hu:=List.mem_of_find?_eq_some hf
    have hku:=List.find?_some hf
    simp only [decide_eq_true_eq] at hku
    obtain ⟨p,hp,rfl⟩:=List.getElem_of_mem ht
    obtain ⟨q,hq,rfl⟩:=List.getElem_of_mem hu
    have hs:=List.pairwise_iff_getElem.1 h
    rcases Nat.lt_trichotomy p q with e | e | e
    · have:=hs p q hp hq e; rw [hk,hku] at this; exact absurd this (EZ _)
    · subst e; rfl
    · have:=hs q p hq hp e; rw [hk,hku] at this; exact absurd this (EZ _)
theorem yD {ts:List AC} {i j:Int} (h:∀ t∈ts,key t≠(i,j)):vJ ts i j=(0,false):=by
  unfold vJ
  rw [List.find?_eq_none.2 (by simpa using h)]
theorem rL {a:Rows} {rows cols i j:Int} {ts:List AC} {Q:Int×Bool→Prop} (hl:RU a) (ha:VU a=BF rows cols ts) (h:Canon rows cols ts) (hQ:Q (vJ ts i j)):TZ a i j Q:=by
  unfold TZ
  have hr0:=h.r0; have hr1:=h.r1; have hlen:=h.len
  refine rK hl ha h ?_
  have hlr:(WW rows ts i).length≤ts.length:=by
    unfold WW; split
    · have:=OB ts i.toNat; simpa using this
    · simp
  refine EX (WW rows ts i).length (by omega) (fun q=>∀ (p:Nat) (hp:p<(WW rows ts i).length),p<q→(WW rows ts i)[p].At≠j) (by simp) (fun q next hq hR hn=>?_) (fun next hR=>?_)
  · refine AD (fun _=>?_) (fun h=>by omega)
    refine BG hq (CB (fun e=>BG hq ?_) (fun e=>hn fun p hp hpq=>?_))
    · have hm:(WW rows ts i)[q]∈WW rows ts i:=List.getElem_mem hq
      generalize (WW rows ts i)[q]=x at e hm
      unfold WW at hm
      split at hm
      · rename_i hin
        obtain ⟨t,ht,rfl⟩:=List.mem_map.1 hm
        have ht2:=List.mem_filter.1 ht
        have hrow:t.Row=i:=by have:=ht2.2; simp only [decide_eq_true_eq] at this; omega
        have hcol:t.Col=j:=e
        rw [AaU h.srt ht2.1 (by unfold key; rw [hrow,hcol])] at hQ
        exact hQ
      · simp at hm
    · by_cases e':p=q
      · subst e'; exact e
      · exact hR p hp (by omega)
  · refine AD (fun h=>by omega) (fun _=>?_)
    rw [yD fun t ht hk=>?_] at hQ
    · exact hQ
    · have hin:=h.inn t ht
      unfold UD at hin
      unfold key at hk
      simp only [Prod.mk.injEq] at hk
      have hm:UP t∈WW rows ts i:=by
        unfold WW
        rw [if_pos (by omega)]
        exact List.mem_map_of_mem (List.mem_filter.2 ⟨ht,by simp; omega⟩)
      obtain ⟨q,hq,e⟩:=List.getElem_of_mem hm
      exact hR q hq hq (by rw [e]; exact hk.2)
theorem Srt.nodup {l:List AC} (h:Srt l):l.Nodup:=by
  rw [List.nodup_iff_pairwise_ne]
  exact List.Pairwise.imp (R:=fun a b=>PD (key a) (key b)) (fun {a b} hab (e:a=b)=>EZ (key b) (by rw [e] at hab; exact hab)) h
theorem AaV {l l':List AC} (h:Srt l) (h':Srt l') (he:∀ t,t∈l↔t∈l'):l=l':=
  bW ((List.perm_ext_iff_of_nodup h.nodup h'.nodup).2 he) h h' fun a b _ _ h1 h2=>absurd (MB h1 h2) (EZ _)
theorem LP {rows cols:Int} {ts:List AC} (h:Canon rows cols ts):VU (BF rows cols ts)=BF rows cols ts:=by
  unfold VU; rw [if_pos h.right]
def iU (l:Int):Int:=if 0 > l then 0 else l
def nH (h n:Int):Int:=if n<h then n else h
def ext (l h n:Int):Int:=if iU l<nH h n then nH h n - iU l else 0
def KT (l h c d:Int) (ts:List AC):List AC:=(ts.filter fun t=>decide ((l≤t.Row∧t.Row<h)∧(c≤t.Col∧t.Col<d))).map fun t=>⟨t.Row - l,t.Col - c,t.Val⟩
def lW (rows cols:Int) (ts:List AC) (p q:Int×Int):Rows:=BF (ext p.1 p.2 rows) (ext q.1 q.2 cols) (KT (iU p.1) (nH p.2 rows) (iU q.1) (nH q.2 cols) ts)
theorem gH (l h n:Int) (hn:0≤n) (h1:n≤4096):0≤ext l h n∧ext l h n≤n∧0≤iU l∧nH h n≤n:=by
  unfold ext iU nH; (repeat' split) <;> omega
theorem jX {rows cols:Int} {ts:List AC} (h:Canon rows cols ts) (p q:Int×Int):Canon (ext p.1 p.2 rows) (ext q.1 q.2 cols) (KT (iU p.1) (nH p.2 rows) (iU q.1) (nH q.2 cols) ts):=by
  have h1:=gH p.1 p.2 rows h.r0 h.r1
  have h2:=gH q.1 q.2 cols h.c0 h.c1
  have h3:=h.r1; have h4:=h.c1
  refine ⟨by omega,by omega,by omega,by omega,?_,?_,?_⟩
  · have:=h.len
    unfold KT
    rw [List.length_map]
    exact Nat.le_trans (List.length_filter_le _ _) this
  · unfold Srt KT
    rw [List.pairwise_map]
    refine List.Pairwise.imp (fun {a b} hab=>?_) (List.Pairwise.filter (R:=fun a b=>PD (key a) (key b)) _ h.srt)
    unfold PD key at *
    simp only at *
    omega
  · intro t ht
    obtain ⟨u,hu,rfl⟩:=List.mem_map.1 ht
    have hc:=(List.mem_filter.1 hu).2
    simp only [decide_eq_true_eq] at hc
    have e1:ext p.1 p.2 rows=nH p.2 rows - iU p.1:=by unfold ext; rw [if_pos (by omega)]
    have e2:ext q.1 q.2 cols=nH q.2 cols - iU q.1:=by unfold ext; rw [if_pos (by omega)]
    unfold UD
    simp only
    omega
theorem jY {p:Int×Int} {n:Int} {Q:Int×Int→Prop} (h0:0≤n) (h1:n≤4096) (hQ:Q (iU p.1,ext p.1 p.2 n)):RE p n Q:=by
  unfold RE
  show AQ (decide (nH p.2 n≤iU p.1)) (Q (iU p.1,0)) (Q (iU p.1,AJ (nH p.2 n - iU p.1)))
  have hb:=gH p.1 p.2 n h0 h1
  unfold ext at hQ
  refine AD (fun h=>?_) (fun h=>?_)
  · rwa [if_neg (by omega)] at hQ
  · rw [if_pos (by omega)] at hQ
    rwa [AV (by omega) (by omega)]
def gI (c d:Int) (t:AC):Bool:=decide (c≤t.Col∧t.Col<d)
def shf (l c:Int) (t:AC):AC:=⟨t.Row - l,t.Col - c,t.Val⟩
theorem yE {ts:List AC} (h:Srt ts) (l c d:Int) (v:Nat) (hv:l≤v):KT l ((v:Int)+1) c d ts=KT l v c d ts++((KH ts v).filter (gI c d)).map (shf l c):=by
  unfold KT
  rw [show (fun t:AC=>(⟨t.Row - l,t.Col - c,t.Val⟩:AC))=shf l c from rfl,←List.map_append]
  congr 1
  refine AaV (List.Pairwise.filter _ h) (List.pairwise_append.2 ⟨List.Pairwise.filter _ h,List.Pairwise.filter _ (List.Pairwise.filter _ h),fun a ha b hb=>?_⟩) fun t=>?_
  · have h1:=(List.mem_filter.1 ha).2
    have h2:=(List.mem_filter.1 (List.mem_filter.1 hb).1).2
    simp only [decide_eq_true_eq] at h1 h2
    unfold PD key
    simp only
    omega
  · unfold KH gI
    simp only [List.mem_append,List.mem_filter,decide_eq_true_eq]
    constructor
    · rintro ⟨h1,h2⟩
      by_cases e:t.Row=v
      · exact .inr ⟨⟨h1,e⟩,h2.2⟩
      · exact .inl ⟨h1,by omega,h2.2⟩
    · rintro (⟨h1,h2⟩ | ⟨⟨h1,h2⟩,h3⟩)
      · exact ⟨h1,by omega,h2.2⟩
      · exact ⟨h1,by omega,h3⟩
theorem lX {ts:List AC} {l h c d:Int} (hh:h≤l):KT l h c d ts=[]:=by
  unfold KT
  rw [List.filter_eq_nil_iff.2]; · rfl
  intro t ht
  simp only [decide_eq_true_eq]; omega
theorem VE {a:Rows} {rows cols:Int} {ts:List AC} {p q:Int×Int} {Q:Rows→Prop} (hl:RU a) (ha:VU a=BF rows cols ts) (h:Canon rows cols ts) (hQ:Q (lW rows cols ts p q)):LC a p q Q:=by
  unfold LC
  have hlen:=h.len
  have hr1:=h.r1; have hc1:=h.c1
  have b1:=gH p.1 p.2 rows h.r0 h.r1
  have b2:=gH q.1 q.2 cols h.c0 h.c1
  refine lV hl ?_
  rw [ha]
  refine jY h.r0 h.r1 (jY h.c0 h.c1 ?_)
  show BK _ _
  have hcan:=jX h p q
  unfold lW at hQ
  have hrl:(BF rows cols ts).Rows=rows:=rfl
  have hcl:(BF rows cols ts).Cols=cols:=rfl
  rw [hcl,hrl]
  generalize hL:iU p.1=L at *
  generalize hH:nH p.2 rows=H at *
  generalize hC:iU q.1=C at *
  generalize hD:nH q.2 cols=D at *
  have eE:ext p.1 p.2 rows=if L<H then H - L else 0:=by unfold ext; rw [hL,hH]
  have eF:ext q.1 q.2 cols=if C<D then D - C else 0:=by unfold ext; rw [hC,hD]
  generalize ext p.1 p.2 rows=E at *
  generalize ext q.1 q.2 cols=F at *
  dsimp only
  obtain ⟨n,hn⟩:∃ n:Nat,E=n:=⟨E.toNat,by omega⟩
  rw [hn]
  refine BH (fun (s:List AC) i=>(s,i)) 0 n (by omega) (fun i s=>s=KT L (L+(i:Nat)) C D ts) (by omega) (s0:=[]) (by rw [lX (by omega)]) (fun i s next _ hi hm hnx=>?_) (fun s next hm=>?_)
  · subst hm
    dsimp only
    have hLH:L<H∧E=H - L:=by
      by_cases e:L<H
      · rw [if_pos e] at eE; exact ⟨e,eE⟩
      · rw [if_neg e] at eE; omega
    obtain ⟨v,hv⟩:∃ v:Nat,L+(i:Int)=v:=⟨(L+i).toNat,by omega⟩
    have e1:AJ (L+(i:Int))=v:=by rw [AV (by omega) (by omega)]; exact hv
    rw [e1]
    refine AD (fun _=>?_) (fun h=>by omega)
    refine rJ h.sml (LP h) h ?_
    have erow:WW rows ts v=(KH ts v).map UP:=by unfold WW; rw [if_pos (by omega),Int.toNat_natCast]
    rw [erow]
    have hsl:=OB ts v
    have hrow:∀ t∈KH ts v,t.Row=v:=fun t ht=>by simpa using (List.mem_filter.1 ht).2
    have hin:∀ t∈KH ts v,UD rows cols t:=fun t ht=>h.inn t (List.mem_filter.1 ht).1
    have hcut:=yE h.srt L C D v (by omega)
    rw [show (v:Int)+1=L+((i+1:Nat):Int) by omega] at hcut
    rw [hcut] at hnx
    have hacc:(KT L v C D ts).length≤ts.length:=by
      unfold KT
      rw [List.length_map]
      exact List.length_filter_le _ _
    rw [hv]
    generalize KT L v C D ts=acc at hnx hacc
    generalize KH ts v=xs at *
    refine BH (fun (s:List AC) i=>(s,i)) 0 xs.length (by omega) (fun j s=>s=acc++((xs.take j).filter (gI C D)).map (shf L C)) (by omega) (by simp) (fun j s nx _ hj hm hnj=>?_) (fun s nx hm=>?_)
    · subst hm
      dsimp only
      refine AD (fun _=>?_) (fun h=>by simp at h; omega)
      have hm:=List.getElem_mem hj
      have hi1:=hin _ hm
      have hr:=hrow _ hm
      unfold UD at hi1
      have hst:(xs.take (j+1)).filter (gI C D)=(xs.take j).filter (gI C D)++if gI C D xs[j]=true then [xs[j]] else []:=by
        rw [List.take_succ_eq_append_getElem hj,List.filter_append,List.filter_cons,List.filter_nil]
      refine AM (by omega) (x:=UP xs[j]) (by simp [hj]) ?_
      have eAt:(UP xs[j]).At=xs[j].Col:=rfl
      have eVal:(UP xs[j]).Val=xs[j].Val:=rfl
      rw [eAt,eVal]
      refine FM (fun b=>b=gI C D xs[j]) ?_ fun k hk=>?_
      · rintro _ rfl
        refine ⟨fun hc=>BI ?_ (hnj _ ?_),fun hc=>hnj _ ?_⟩
        · have:=List.length_filter_le (gI C D) (xs.take j)
          have h4:(xs.take j).length≤xs.length:=by simp; omega
          simp only [List.length_append,List.length_map,List.length_singleton]
          omega
        · have hc':C≤xs[j].Col∧xs[j].Col<D:=by simpa [gI] using hc
          rw [hst,if_pos hc,List.map_append,List.append_assoc,AV (x:=xs[j].Col - C) (by omega) (by omega)]
          have:(⟨(i:Int),xs[j].Col - C,xs[j].Val⟩:AC)=shf L C xs[j]:=by unfold shf; rw [show (i:Int)=xs[j].Row - L by omega]
          rw [this]; rfl
        · rw [hst,if_neg (by simp [hc]),List.append_nil]
      · refine AD (fun hc=>hk _ ?_) (fun hc=>hk _ ?_)
        · unfold gI
          apply decide_eq_decide.2
          rw [eF,AV (x:=xs[j].Col - C) (by omega) (by omega)]
          split <;> omega
        · unfold gI; symm; apply decide_eq_false; omega
    · subst hm
      dsimp only
      refine AD (fun h=>by simp at h) (fun _=>hnx _ ?_)
      rw [List.take_length]
  · subst hm
    dsimp only
    refine AD (fun h=>by omega) (fun _=>?_)
    have e:KT L (L+(n:Int)) C D ts=KT L H C D ts:=by
      by_cases e:L<H
      · rw [if_pos e] at eE; rw [show L+(n:Int)=H by omega]
      · rw [if_neg e] at eE; rw [lX (by omega),lX (by omega)]
    rw [e]
    rw [hn] at hcan hQ
    refine oM (by omega) (by omega) (by have:=hcan.len; omega) (fun t ht=>?_) hQ
    have:=hcan.inn t ht
    unfold UD at this
    exact ⟨this.1,this.2.1⟩
theorem vK {r rows cols:Int} {kvs:List (HS×Int)} (h:0≤rows∧rows≤4096∧0≤cols∧cols≤4096) (hl:kvs.length≤65536) (hk:∀ t∈kvs,UD rows cols (qO t.1 0)) (hv:∀ t∈kvs,JO t.2):Canon rows cols (PE (SC r kvs) qO).1:=by
  refine ⟨h.1,h.2.1,h.2.2.1,h.2.2.2,?_,?_,?_⟩
  · exact Nat.le_trans (lT _) (by have:=(VC r kvs hv).1; omega)
  · unfold PE
    split
    · unfold Srt
      rw [List.pairwise_map]
      exact lP r kvs
    · exact .nil
  · intro t ht
    unfold PE at ht
    split at ht
    · obtain ⟨p,hp,rfl⟩:=List.mem_map.1 ht
      obtain ⟨x,hx,e⟩:=tS hp
      have:=hk x hx
      unfold UD qO at *
      rw [←e]
      exact this
    · simp at ht
theorem AaW {x:Int} (h:VS .i64 x):JO x:=by have:=bounds_i64 h; unfold JO; omega
theorem AcN {ts:List AC} {Q:List AC→Prop} (hQ:∀ ys:List AC,ys.length≤60→(∀ t∈ys,t∈ts)→Q ys):XX ts Q:=by
  unfold XX
  refine AD (fun h=>⟨by decide,by decide,by omega,hQ _ ?_ fun t ht=>?_⟩) (fun h=>hQ _ (by omega) fun t ht=>ht)
  · simp; omega
  · exact List.mem_of_mem_take (List.mem_of_mem_drop ht)
theorem yF:RU zR:=⟨by decide,by decide,by decide⟩
theorem yG:¬PM zR:=fun h=>by have:=h.sl; simp [zR] at this
theorem yH {r rows cols:Int} {ts:List AC} (hv:∀ t∈ts,JO t.Val):((xZ r rows cols ts).1=zR∧(xZ r rows cols ts).2≠0)∨∃ T,Canon rows cols T∧xZ r rows cols ts=(BF rows cols T,0)∧(1≤r∧r≤5)∧(∀ t∈ts,UD rows cols t)∧ts.length≤65536∧(0≤rows∧rows≤4096∧0≤cols∧cols≤4096)∧T=(PE (SC r (ts.map eC)) qO).1∧(PE (SC r (ts.map eC)) qO).2=0:=by
  unfold xZ
  split
  · left; exact ⟨rfl,by simp⟩
  split
  · left; exact ⟨rfl,by simp⟩
  split
  · left; exact ⟨rfl,by simp⟩
  split
  · left; exact ⟨rfl,by simp⟩
  split
  · rename_i h; left; exact ⟨rfl,h⟩
  · rename_i h1 h2 h3 h4 h5
    right
    have h2:=Decidable.of_not_not h2
    have h4:=Decidable.of_not_not h4
    refine ⟨_,vK h2 (by simpa using h3) (fun t ht=>?_) (fun t ht=>?_),rfl,Decidable.of_not_not h1,h4,by omega,h2,rfl,Decidable.of_not_not h5⟩
    · obtain ⟨x,hx,rfl⟩:=List.mem_map.1 ht
      exact h4 x hx
    · obtain ⟨x,hx,rfl⟩:=List.mem_map.1 ht
      exact hv x hx
theorem AaX (a:AP):JO (NY a).1:=by
  unfold NY JO
  split
  · simp only [HP]; omega
  · simp
theorem yI {r:Int} {k:HS} {v:AP} {l:List (HS×AP)} (h:∀ p∈l,PD p.1 k):ins r k v l=l++[(k,v)]:=by
  induction l with
  | nil=>rfl
  | cons p l ih=>unfold ins; rw [if_pos (h p (by simp)),ih fun q hq=>h q (by simp [hq])]; rfl
theorem AaY {r:Int} {T:List AC} (h:Srt T):SC r (T.map eC)=T.map fun t=>(key t,ZQ t.Val):=by
  suffices ∀ i,i≤T.length→SC r ((T.take i).map eC)=(T.take i).map fun t=>(key t,ZQ t.Val) by
    have:=this T.length (Nat.le_refl _)
    rwa [List.take_length] at this
  intro i
  induction i with
  | zero=>intro _; rfl
  | succ i ih=>
    intro hi
    rw [GX (show i<T.length by omega),GX (show i<T.length by omega),lN,ih (by omega),yI]
    · rfl
    · intro p hp
      obtain ⟨t,ht,rfl⟩:=List.mem_map.1 hp
      obtain ⟨j,hj,rfl⟩:=List.getElem_of_mem ht
      simp only [List.length_take] at hj
      rw [List.getElem_take]
      exact List.pairwise_iff_getElem.1 h j i (by omega) (by omega) (by omega)
theorem yJ {v:Int} (h:JO v):NY (ZQ v)=(v,true):=by
  unfold NY ZQ
  unfold JO at h
  simp only
  rw [if_pos]
  · rw [HP]; congr 1; omega
  · split <;> omega
theorem eV {r rows cols:Int} {T:List AC} (h:Canon rows cols T) (hv:∀ t∈T,JO t.Val) (hr:1≤r∧r≤5):xZ r rows cols T=(BF rows cols T,0):=by
  have hf:PE (SC r (T.map eC)) qO=(T,0):=by
    rw [AaY h.srt]
    rw [gE (m:=[]) (.refl _) (fun p hp=>by obtain ⟨t,ht,rfl⟩:=List.mem_map.1 hp; rw [yJ (hv t ht)])]
    congr 1
    rw [List.map_map]
    refine (List.map_congr_left fun t ht=>?_).trans (List.map_id T)
    simp only [Function.comp_apply,yJ (hv t ht)]
    rfl
  have h1:=h.r0; have h2:=h.r1; have h3:=h.c0; have h4:=h.c1; have h5:=h.len
  unfold xZ
  rw [if_neg (fun h=>h hr),if_neg (fun h=>h ⟨h1,h2,h3,h4⟩),if_neg (by omega),if_neg (fun h'=>h' h.inn),hf,if_neg (by simp)]
theorem tW {l h c d:Int} {T:List AC} (t:AC):t∈KT l h c d T↔(⟨t.Row+l,t.Col+c,t.Val⟩:AC)∈T∧(0≤t.Row∧t.Row+l<h)∧0≤t.Col∧t.Col+c<d:=by
  unfold KT
  simp only [List.mem_map,List.mem_filter,decide_eq_true_eq]
  constructor
  · rintro ⟨u,⟨hu,hc⟩,rfl⟩
    simp only
    rw [show u.Row - l+l=u.Row by omega,show u.Col - c+c=u.Col by omega]
    exact ⟨hu,by omega,by omega,by omega⟩
  · rintro ⟨hm,hc⟩
    refine ⟨_,⟨hm,?_⟩,?_⟩
    · simp only; omega
    · cases t; simp only [AC.mk.injEq]; exact ⟨by omega,by omega,trivial⟩
def eW (r:Int):Option AP→Option AP→Option AP
  | none,y=>y
  | some a,none=>some a
  | some a,some b=>some (GW r a b)
theorem MR (r:Int) (a:Option AP):eW r a none=a:=by cases a <;> rfl
def TE (z:Int):AP:=⟨AJ (z / 18446744073709551616),z % 18446744073709551616⟩
theorem lY (z:Int):NF (TE z):=by unfold NF TE; simp only [HP]; omega
theorem VF (x y:Int):GW 5 (TE x) (TE y)=TE (x+y):=by
  have e:GW 5 (TE x) (TE y)=⟨AJ ((TE x).Hi+(TE y).Hi+(if 18446744073709551616≤(TE x).Lo+(TE y).Lo then 1 else 0)),((TE x).Lo+(TE y).Lo) % 18446744073709551616⟩:=rfl
  rw [e]
  unfold TE
  apply PC
  · simp only [HP]; split <;> omega
  · simp only; omega
theorem aR {v:Int} (h:JO v):ZQ v=TE v:=by
  unfold ZQ TE JO at *
  apply PC
  · simp only [HP]; split <;> omega
  · rfl
theorem tX {hi lo:Int} (h0:0≤lo) (h1:lo<18446744073709551616):(⟨AJ hi,lo⟩:AP)=TE (hi*18446744073709551616+lo):=by
  unfold TE
  apply PC
  · simp only [HP]; omega
  · simp only; omega
theorem AdV {x:Int} (k:Nat) (hk:k≤64):shr .u64 x k=x / 2 ^ k:=by
  unfold shr
  rw [Int.fdiv_eq_ediv_of_nonneg _ (Int.le_of_lt (Int.pow_pos (by omega)))]
  have:min (Int.toNat (k:Int)) (IntKind.bits .u64)=k:=by simp [IntKind.bits]; omega
  rw [this]
theorem Ac2 {x:Int} (k:Nat) (hk:k≤64):shl .u64 x k=(x*2 ^ k) % 18446744073709551616:=by
  unfold shl
  rw [TD]
  have:min (Int.toNat (k:Int)) (IntKind.bits .u64)=k:=by simp [IntKind.bits]; omega
  rw [this]
theorem jZ (x:Int) (h0:0≤x) (h1:x<18446744073709551616):(BitVec.ofInt 64 x).toNat=x.toNat:=by
  rw [BitVec.toNat_ofInt]
  congr 1
  exact Int.emod_eq_of_lt h0 (by simpa using h1)
theorem AaZ {x y:Int} (hx0:0≤x) (hx1:x<18446744073709551616) (hy0:0≤y) (hy1:y<18446744073709551616):bor .u64 x y=((x.toNat ||| y.toNat:Nat):Int):=by
  unfold bor
  have e:(BitVec.ofInt (IntKind.bits .u64) x ||| BitVec.ofInt (IntKind.bits .u64) y).toNat=x.toNat ||| y.toNat:=by
    show (BitVec.ofInt 64 x ||| BitVec.ofInt 64 y).toNat=_
    rw [BitVec.toNat_or,jZ x hx0 hx1,jZ y hy0 hy1]
  rw [e,TD]
  have:x.toNat ||| y.toNat<2 ^ 64:=Nat.or_lt_two_pow (by omega) (by omega)
  omega
theorem rM {h l:Int} (hh0:0≤h) (hh1:h<4294967296) (hl0:0≤l) (hl1:l<4294967296):bor .u64 (h*4294967296) l=h*4294967296+l:=by
  rw [AaZ (by omega) (by omega) hl0 (by omega)]
  have e:(h*4294967296).toNat=h.toNat <<< 32:=by rw [Nat.shiftLeft_eq]; omega
  rw [e,←Nat.shiftLeft_add_eq_or_of_lt (by omega),Nat.shiftLeft_eq]
  omega
theorem QP {x:Int} {Q:Int×Int→Prop} (h0:0≤x) (h1:x<18446744073709551616) (hQ:Q (x % 4294967296,x / 4294967296)):GS x Q:=by
  unfold GS
  have e1:shl .u64 x 32=(x*4294967296) % 18446744073709551616:=Ac2 32 (by omega)
  have e2:∀ y,shr .u64 y 32=y / 4294967296:=fun y=>AdV 32 (by omega)
  rw [e1,e2,e2]
  rwa [show x*4294967296 % 18446744073709551616 / 4294967296=x % 4294967296 by omega]
theorem rN {a b:Int} {Q:AP→Prop} (ha0:0≤a) (ha1:a<18446744073709551616) (hb0:0≤b) (hb1:b<18446744073709551616) (hQ:Q (TE (a*b))):PZ a b Q:=by
  unfold PZ
  have hlt:∀ x y:Int,0≤x→x<4294967296→0≤y→y<4294967296→0≤x*y∧x*y≤18446744065119617025:=by
    intro x y h1 h2 h3 h4
    refine ⟨Int.mul_nonneg h1 h3,?_⟩
    have:=Int.mul_le_mul (show x≤4294967295 by omega) (show y≤4294967295 by omega) h3 (by omega)
    omega
  refine QP ha0 ha1 (QP hb0 hb1 ?_)
  simp only
  obtain ⟨x0,hx0⟩:∃ x0,x0=a % 4294967296:=⟨_,rfl⟩
  obtain ⟨x1,hx1⟩:∃ x1,x1=a / 4294967296:=⟨_,rfl⟩
  obtain ⟨y0,hy0⟩:∃ y0,y0=b % 4294967296:=⟨_,rfl⟩
  obtain ⟨y1,hy1⟩:∃ y1,y1=b / 4294967296:=⟨_,rfl⟩
  rw [←hx0,←hx1,←hy0,←hy1]
  have hab:a*b=x1*y1*18446744073709551616+(x1*y0+x0*y1)*4294967296+x0*y0:=by
    have e1:a=x1*4294967296+x0:=by omega
    have e2:b=y1*4294967296+y0:=by omega
    rw [e1,e2,Int.add_mul,Int.mul_add,Int.mul_add]
    have q1:x1*4294967296*(y1*4294967296)=x1*y1*18446744073709551616:=by rw [Int.mul_assoc,Int.mul_left_comm 4294967296 y1,←Int.mul_assoc x1]; rfl
    have q2:x1*4294967296*y0=x1*y0*4294967296:=Int.mul_right_comm _ _ _
    have q3:x0*(y1*4294967296)=x0*y1*4294967296:=(Int.mul_assoc _ _ _).symm
    rw [q1,q2,q3]; omega
  obtain ⟨b00,c00⟩:=hlt x0 y0 (by omega) (by omega) (by omega) (by omega)
  obtain ⟨b01,c01⟩:=hlt x0 y1 (by omega) (by omega) (by omega) (by omega)
  obtain ⟨b10,c10⟩:=hlt x1 y0 (by omega) (by omega) (by omega) (by omega)
  obtain ⟨b11,c11⟩:=hlt x1 y1 (by omega) (by omega) (by omega) (by omega)
  generalize x0*y0=p00 at *
  generalize x0*y1=p01 at *
  generalize x1*y0=p10 at *
  generalize x1*y1=p11 at *
  simp only [TD]
  refine QP (by omega) (by omega) ?_
  simp only
  refine QP (by omega) (by omega) ?_
  simp only
  refine QP (by omega) (by omega) (QP (by omega) (by omega) ?_)
  simp only
  have e3:∀ y,shl .u64 y 32=(y*4294967296) % 18446744073709551616:=fun y=>Ac2 32 (by omega)
  rw [e3]
  have e4:∀ y:Int,(y % 4294967296*4294967296) % 18446744073709551616=y % 4294967296*4294967296:=fun y=>by omega
  rw [e4,rM (by omega) (by omega) (by omega) (by omega),tX (by omega) (by omega)]
  rw [hab] at hQ
  have hfin:TE (((((p11 % 18446744073709551616+(p10 % 18446744073709551616+p00 % 18446744073709551616 / 4294967296) % 18446744073709551616 / 4294967296) % 18446744073709551616+(p01 % 18446744073709551616+(p10 % 18446744073709551616+p00 % 18446744073709551616 / 4294967296) % 18446744073709551616 % 4294967296) % 18446744073709551616 / 4294967296) % 18446744073709551616)*18446744073709551616+((p01 % 18446744073709551616+(p10 % 18446744073709551616+p00 % 18446744073709551616 / 4294967296) % 18446744073709551616 % 4294967296) % 18446744073709551616 % 4294967296*4294967296+p00 % 18446744073709551616 % 4294967296)))=TE (p11*18446744073709551616+(p10+p01)*4294967296+p00):=by
    unfold TE
    apply PC
    · simp only [HP]; omega
    · simp only; omega
  rw [hfin]; exact hQ
theorem aS {a:AP} (h:NF a):a=TE (a.Hi*18446744073709551616+a.Lo):=by
  unfold NF at h
  rw [←tX (by omega) (by omega)]
  apply PC
  · simp only [HP]; omega
  · rfl
theorem yK {x:Int} {Q:AP→Prop} (hQ:Q (TE (-x))):aG ⟨0,0⟩ (TE x) Q:=by
  unfold aG RG
  have key:∀ c:Int,(c=if 0<(TE x).Lo then 1 else 0)→(⟨AJ ((((0 % 18446744073709551616) - ((TE x).Hi % 18446744073709551616)) % 18446744073709551616 - c) % 18446744073709551616),(0 - (TE x).Lo) % 18446744073709551616⟩:AP)=TE (-x):=by
    intro c hc
    unfold TE at *
    subst hc
    apply PC
    · simp only [HP]; split <;> omega
    · simp only; omega
  simp only [TD]
  refine AD (fun h=>?_) (fun h=>?_)
  · rw [key 1 (by rw [if_pos h])]; exact hQ
  · rw [key 0 (by rw [if_neg h])]; exact hQ
theorem oQ {a b:Int} {Q:AP→Prop} (ha:JO a) (hb:JO b) (hQ:Q (TE (a*b))):aH a b Q:=by
  unfold aH
  unfold JO at ha hb
  have hs:∀ {x:Int} {K:Int→Prop},-9223372036854775808≤x∧x≤9223372036854775807→K (if x<0 then -x else x)→TX x K:=by
    intro x K hx hK
    unfold TX
    simp only [TD]
    refine AD (fun h=>?_) (fun h=>?_)
    · rw [if_pos h] at hK; rwa [show (0 - x % 18446744073709551616) % 18446744073709551616 = -x by omega]
    · rw [if_neg h] at hK; rwa [show x % 18446744073709551616=x by omega]
  refine hs ha (hs hb ?_)
  have m1 : -a*b = -(a*b):=Int.neg_mul _ _
  have m2:a * -b = -(a*b):=Int.mul_neg _ _
  have m3 : -a * -b=a*b:=Int.neg_mul_neg _ _
  refine rN (by split <;> omega) (by split <;> omega) (by split <;> omega) (by split <;> omega) ?_
  by_cases h1:a<0 <;> by_cases h2:b<0
  · rw [if_pos h1,if_pos h2,m3]
    exact AW (by simp [h1,h2]) hQ
  · rw [if_pos h1,if_neg h2,m1]
    exact BN (by simp [h1,h2]) (yK (by rwa [Int.neg_neg]))
  · rw [if_neg h1,if_pos h2,m2]
    exact BN (by simp [h1,h2]) (yK (by rwa [Int.neg_neg]))
  · rw [if_neg h1,if_neg h2]
    exact AW (by simp [h1,h2]) hQ
def iV (r a x:Int):AP:=
  if r=2 then (if a≠0∧x≠0 then ⟨0,1⟩ else ⟨0,0⟩)
  else if r=5 then TE (a*x)
  else if r=1∨r=3∨r=4 then
    (if 4611686018427387904≤a∨4611686018427387904≤x then TE 4611686018427387904
     else if r=3 then TE a else if r=4 then TE x else if ZP (TE 4611686018427387904) (TE (a+x)) then TE 4611686018427387904 else TE (a+x))
  else ⟨0,0⟩
theorem PF (r a x:Int):NF (iV r a x):=by
  have h0:NF ⟨0,0⟩:=by unfold NF; simp
  have h1:NF ⟨0,1⟩:=by unfold NF; simp
  unfold iV
  repeat' split
  all_goals first | exact lY _ | exact h0 | exact h1
theorem Ab0 {x y:Int} (hx : -170141183460469231731687303715884105728≤x∧x<170141183460469231731687303715884105728) (hy : -170141183460469231731687303715884105728≤y∧y<170141183460469231731687303715884105728):ZP (TE x) (TE y)↔x≤y:=by
  have h:∀ z:Int,-170141183460469231731687303715884105728≤z∧z<170141183460469231731687303715884105728→AJ (z / 18446744073709551616)=z / 18446744073709551616:=by
    intro z hz; rw [HP]; omega
  unfold ZP TE
  simp only [h x hx,h y hy]
  omega
theorem oR {r a x:Int} {Q:AP→Prop} (ha:JO a) (hx:JO x) (hQ:Q (iV r a x)):aI r a x Q:=by
  unfold aI
  unfold iV at hQ
  have ia:JO 4611686018427387904:=by unfold JO; omega
  refine CB (fun h=>?_) (fun h=>CB (fun h5=>?_) (fun h5=>?_))
  · rw [if_pos h] at hQ
    refine EW (fun h1=>aO ?_) (fun h1=>aO ?_)
    · simpa [h1] using hQ
    · simpa [h1] using hQ
  · rw [if_neg h,if_pos h5] at hQ
    exact oQ ha hx hQ
  · rw [if_neg h,if_neg h5] at hQ
    have emax:(if x > a then x else a)≥4611686018427387904↔4611686018427387904≤a∨4611686018427387904≤x:=by split <;> omega
    refine FM (fun _=>¬((1≤r∧r≤5)∧(4611686018427387904≤a∨4611686018427387904≤x))) ?_ ?_
    · rintro _ hno
      refine FM (fun p:Int×Int=>(⟨p.1,p.2⟩:AP)=TE (if r=1 then a else 0)∧(r=1∨r=4)) ?_ ?_
      · rintro ⟨p1,p2⟩ ⟨hp,hr⟩
        simp only at hp ⊢
        refine JZ ia (JZ hx ?_)
        rw [hp,aR ia,aR hx]
        refine dK (lY _) (lY _) (jV ?_)
        rw [VF]
        rw [if_pos (by omega),if_neg (by omega),if_neg (by omega)] at hQ
        rcases hr with hr | hr
        · rw [if_pos hr]; rwa [if_neg (by omega)] at hQ
        · rw [if_neg (show ¬r=1 by omega),show (0:Int)+x=x by omega]
          rw [if_pos hr] at hQ
          unfold JO at hx
          rwa [if_neg (by rw [Ab0 (by omega) (by omega)]; omega)]
      · intro k hk
        refine CB (fun h1=>JZ ha (hk _ ⟨?_,.inl h1⟩)) (fun h1=>CB (fun h4=>hk _ ⟨?_,.inr h4⟩) (fun h4=>CB (fun h3=>JZ ha ?_) (fun h3=>?_)))
        · rw [if_pos h1]; exact aR ha
        · rw [if_neg h1]; decide
        · rw [if_pos (by omega),if_neg (by omega),if_pos h3] at hQ
          rw [aR ha]; exact hQ
        · rw [if_neg (by omega)] at hQ; exact hQ
    · intro k hk
      refine LN ⟨fun h1=>AD (fun h2=>JZ ia ?_) (fun h2=>hk _ ?_),fun h1=>hk _ ?_⟩
      · have h1:=of_decide_eq_true h1
        rw [if_pos (by omega),if_pos (emax.1 h2)] at hQ
        rw [aR ia]; exact hQ
      · exact fun h'=>h2 (emax.2 h'.2)
      · exact fun h'=>of_decide_eq_false h1 h'.1
end Go.Proofs.YtbohadngdkjljaaGreat
