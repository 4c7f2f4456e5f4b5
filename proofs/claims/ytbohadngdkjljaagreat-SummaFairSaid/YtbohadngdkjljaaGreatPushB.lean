import Derived.Test.YtbohadngdkjljaaGreatOK
import Derived.Test.YtbohadngdkjljaaGreatCsrG
namespace Go.Proofs.YtbohadngdkjljaaGreat
open Go Go.Fw
set_option linter.unusedVariables false
set_option linter.unusedSimpArgs false
def KH (ts:List AC) (i:Nat):List AC:=ts.filter fun t=>decide (t.Row=i)
theorem AdF {ts:List AC} (h:Srt ts) (i:Nat) {lo hi:Nat} (hlo:EF ts i=lo) (hhi:EF ts (i+1)=hi) (hle:lo≤hi) (hl:hi≤ts.length):(ts.take hi).drop lo=KH ts i:=by
  have e:ts=ts.take lo++((ts.take hi).drop lo++ts.drop hi):=by
    have h1:ts.take lo=(ts.take hi).take lo:=by rw [List.take_take,Nat.min_eq_left hle]
    rw [←List.append_assoc,h1,List.take_append_drop,List.take_append_drop]
  have hr:∀ (p:Nat) (hp:p<ts.length),ts[p].Row=i↔lo≤p∧p<hi:=fun p hp=>by have:=h.at (i:=i) hp; omega
  unfold KH
  conv=>rhs; rw [e]
  rw [List.filter_append,List.filter_append,List.filter_eq_nil_iff.2,List.filter_eq_self.2,List.filter_eq_nil_iff.2]
  · simp
  · intro t ht
    obtain ⟨j,hj,rfl⟩:=List.getElem_of_mem ht
    simp only [List.getElem_drop,decide_eq_true_eq]
    rw [hr]; omega
  · intro t ht
    obtain ⟨j,hj,rfl⟩:=List.getElem_of_mem ht
    simp only [List.getElem_drop,List.getElem_take,decide_eq_true_eq]
    simp only [List.length_drop,List.length_take] at hj
    rw [hr]; omega
  · intro t ht
    obtain ⟨j,hj,rfl⟩:=List.getElem_of_mem ht
    simp only [List.getElem_take,decide_eq_true_eq]
    simp only [List.length_take] at hj
    rw [hr]; omega
structure Seg (ts:List AC) (i l u:Nat):Prop where
  lo:EF ts i=l
  hi:EF ts (i+1)=u
  le:l≤u
  len:u≤ts.length
  eq:(ts.take u).drop l=KH ts i
  row:∀ (p:Nat) (hp:p<ts.length),l≤p→p<u→ts[p].Row=i
theorem Canon.seg {rows cols:Int} {ts:List AC} (h:Canon rows cols ts) (i:Nat):∃ lo hi,Seg ts i lo hi:=by
  have hs:=WA i ts fun t ht=>(h.inn t ht).1
  have ha:=bU ts (i+1)
  have hb:=XR ts (i+1)
  obtain ⟨lo,hlo⟩:∃ lo:Nat,EF ts i=lo:=⟨_,rfl⟩
  obtain ⟨hi,hhi⟩:∃ hi:Nat,EF ts (i+1)=hi:=⟨_,rfl⟩
  exact ⟨lo,hi,hlo,hhi,by omega,by omega,AdF h.srt i hlo hhi (by omega) (by omega),fun p hp h1 h2=>by have:=h.srt.at (i:=i) hp; omega⟩
theorem Canon.sml {rows cols:Int} {ts:List AC} (h:Canon rows cols ts):KY (AX rows cols ts):=by
  have:=h.r0; have:=h.r1; have:=h.len
  unfold KY AX; simp; omega
theorem GA {rows cols:Int} {ts:List AC} {i:Nat} {K:Int→Prop} (h:(i:Int)≤rows) (hk:K (EF ts i)):AY (AX rows cols ts).Start (i:Int) K:=
  AP (by omega) (OT (by simp; omega)) hk
theorem vK {rows cols:Int} {ts:List AC} {i:Nat} {Q:List Int×List Int→Prop} (h:Canon rows cols ts) (hi:(i:Int)<rows) (hQ:Q ((KH ts i).map (·.Col),(KH ts i).map (·.Val))):XJ (AX rows cols ts) i Q:=by
  unfold XJ
  have hr:=h.r1
  obtain ⟨lo,hi',s⟩:=h.seg i
  have e1:AJ ((i:Int)+1)=(i+1:Nat):=by rw [AZ (by omega) (by omega)]; omega
  rw [e1]
  refine GA (by omega) (GA (by omega) ?_)
  rw [s.lo,s.hi]
  have h1:=s.le; have h2:=s.len
  have hc:(AX rows cols ts).Col.length=ts.length:=by simp [AX]
  have hv:(AX rows cols ts).Val.length=ts.length:=by simp [AX]
  refine ⟨by omega,by omega,by omega,by omega,by omega,by omega,?_⟩
  simp only [Int.toNat_natCast,AX,←List.map_take,←List.map_drop,s.eq]
  exact hQ
def RH (t:AC):CE:=⟨t.Col,t.Val⟩
def XT (rows:Int) (ts:List AC) (i:Int):List CE:=if 0≤i∧i<rows then (KH ts i.toNat).map RH else []
theorem OU (ts:List AC) (i:Nat):(KH ts i).length≤ts.length:=List.length_filter_le _ _
theorem tE {a:Rows} {rows cols i:Int} {ts:List AC} {Q:List CE→Prop} (hl:KY a) (ha:VA a=AX rows cols ts) (h:Canon rows cols ts) (hQ:Q (XT rows ts i)):gA a i Q:=by
  unfold gA
  have hr0:=h.r0; have hr1:=h.r1; have hlen:=h.len
  refine nD hl ?_
  rw [ha]
  have e:AJ ((AX rows cols ts).Rows - 1)=rows - 1:=AZ (by show -9223372036854775808≤rows - 1; omega) (by show rows - 1≤9223372036854775807; omega)
  rw [e]
  unfold XT at hQ
  refine IY (CN (fun hn=>?_) (fun hy=>?_))
  · have hn:¬(0≤i∧i≤rows - 1):=by simpa using hn
    rw [if_neg (by omega)] at hQ; exact hQ
  have hy:0≤i∧i≤rows - 1:=by simpa using hy
  rw [if_pos (by omega)] at hQ
  obtain ⟨n,rfl⟩:∃ n:Nat,i=n:=⟨i.toNat,by omega⟩
  rw [Int.toNat_natCast] at hQ
  refine vK h (by omega) ?_
  have hs:=OU ts n
  generalize KH ts n=xs at hQ hs
  refine BB (fun (s:List CE) i=>(s,i)) 0 xs.length (by omega) (fun i s=>s=(xs.take i).map RH) (by omega) rfl (fun i s next _ hi hm hn=>?_) (fun s next hm=>?_)
  · subst hm
    dsimp only
    refine AB (fun _=>?_) (fun h=>by simp at h; omega)
    refine AP (by omega) (x:=xs[i].Col) (by simp [hi]) (AP (by omega) (x:=xs[i].Val) (by simp [hi]) (BK ?_ (hn _ ?_)))
    · simp; omega
    · rw [HC hi]; rfl
  · subst hm
    dsimp only
    refine AB (fun h=>by simp at h) (fun _=>?_)
    rw [List.take_length]; exact hQ
theorem pZ {ts:List AC} {lo p:Nat} (h1:lo≤p) (h2:p<ts.length):(ts.take (p+1)).drop lo=(ts.take p).drop lo++[ts[p]]:=by
  rw [List.take_succ_eq_append_getElem h2,List.drop_append_of_le_length (by simp; omega)]
theorem tF {a:Rows} {rows cols i:Int} {ts:List AC} {Q:List CE→Prop} (hl:KY a) (ha:VA a=AX rows cols ts) (h:Canon rows cols ts) (hQ:Q (XT rows ts i)):YJ a i Q:=by
  unfold YJ
  have hr0:=h.r0; have hr1:=h.r1; have hlen:=h.len
  refine KG hl ?_
  rw [ha]
  unfold XT at hQ
  refine AB (fun hn=>?_) (fun h1=>AB (fun (hn:rows≤i)=>?_) (fun (h2:¬rows≤i)=>?_))
  · rw [if_neg (by omega)] at hQ; exact hQ
  · rw [if_neg (by omega)] at hQ; exact hQ
  rw [if_pos (by omega)] at hQ
  obtain ⟨n,rfl⟩:∃ n:Nat,i=n:=⟨i.toNat,by omega⟩
  rw [Int.toNat_natCast] at hQ
  obtain ⟨lo,hi',s⟩:=h.seg n
  have e1:AJ ((n:Int)+1)=(n+1:Nat):=by rw [AZ (by omega) (by omega)]; omega
  rw [e1]
  refine GA (by omega) ?_
  rw [s.lo]
  have g1:=s.le; have g2:=s.len
  refine BB (fun (s:List CE) i=>(s,i)) lo hi' (by omega) (fun p st=>st=((ts.take p).drop lo).map RH) (by omega) (s0:=[]) (by simp) (fun p st next hp1 hp2 hm hn=>?_) (fun st next hm=>?_)
  · subst hm
    dsimp only
    refine GA (by omega) ?_
    rw [s.hi]
    have hpl:p<ts.length:=by omega
    refine AB (fun _=>?_) (fun h=>by omega)
    refine AP (by omega) (x:=ts[p].Col) (by simp [AX,hpl]) (AP (by omega) (x:=ts[p].Val) (by simp [AX,hpl]) (BK ?_ (hn _ ?_)))
    · simp; omega
    · rw [pZ hp1 hpl,List.map_append]; rfl
  · subst hm
    dsimp only
    refine GA (by omega) ?_
    rw [s.hi]
    refine AB (fun h=>by omega) (fun _=>?_)
    rw [s.eq]; exact hQ
theorem XU {a:Rows} {rows cols:Int} {ts:List AC} {Q:List AC→Prop} (hl:KY a) (ha:VA a=AX rows cols ts) (h:Canon rows cols ts) (hQ:Q ts):MI a Q:=by
  unfold MI
  have hr0:=h.r0; have hr1:=h.r1; have hlen:=h.len
  refine nD hl ?_
  rw [ha]
  obtain ⟨n,hn⟩:∃ n:Nat,rows=n:=⟨rows.toNat,by omega⟩
  have hrw:(AX rows cols ts).Rows=n:=hn
  rw [hrw]
  refine BB (fun (s:List AC) i=>(s,i)) 0 n (by omega) (fun i s=>s=ts.take (EF ts i).toNat) (by omega) (s0:=[]) (by rw [WB fun t ht=>(h.inn t ht).1]; rfl) (fun i s next _ hi hm hnx=>?_) (fun s next hm=>?_)
  · subst hm
    dsimp only
    refine AB (fun _=>?_) (fun h=>by omega)
    refine vK h (by omega) ?_
    obtain ⟨lo,hi',s⟩:=h.seg i
    have g1:=s.le; have g2:=s.len
    rw [s.lo,Int.toNat_natCast]
    have hsl:(KH ts i).length=hi' - lo:=by rw [←s.eq]; simp; omega
    have hgt:∀ (j:Nat) (hj:j<(KH ts i).length),(KH ts i)[j]=ts[lo+j]'(by omega):=fun j hj=>by simp [←s.eq]
    refine BB (fun (s:List AC) i=>(s,i)) 0 (KH ts i).length (by omega) (fun j st=>st=ts.take (lo+j)) (by omega) (by simp) (fun j st nx _ hj hm hnj=>?_) (fun st nx hm=>?_)
    · subst hm
      dsimp only
      refine AB (fun _=>?_) (fun h=>by simp at h; omega)
      have hpl:lo+j<ts.length:=by omega
      refine AP (by omega) (x:=ts[lo+j].Col) (by simp [hj,hgt]) (AP (by omega) (x:=ts[lo+j].Val) (by simp [hj,hgt]) (BK ?_ (hnj _ ?_)))
      · simp; omega
      · rw [show lo+(j+1)=lo+j+1 by omega,List.take_succ_eq_append_getElem hpl]
        congr 2
        have:=s.row (lo+j) hpl (by omega) (by omega)
        rw [←this]
    · subst hm
      dsimp only
      refine AB (fun h=>by simp at h) (fun _=>hnx _ ?_)
      rw [s.hi,hsl,Int.toNat_natCast]; congr 1; omega
  · subst hm
    dsimp only
    refine AB (fun h=>by omega) (fun _=>?_)
    have hb:=YO h
    rw [hn,Int.toNat_natCast] at hb
    rw [hb,Int.toNat_natCast,List.take_length]; exact hQ
theorem iG {a:Rows} {rows cols:Int} {ts:List AC} {Q:List AC→Prop} (hl:KY a) (ha:VA a=AX rows cols ts) (h:Canon rows cols ts) (hQ:Q ts):PD a Q:=by
  unfold PD
  have hr0:=h.r0; have hr1:=h.r1; have hlen:=h.len
  refine KG hl ?_
  rw [ha]
  obtain ⟨n,hn⟩:∃ n:Nat,rows=n:=⟨rows.toNat,by omega⟩
  have hrw:(AX rows cols ts).Rows=n:=hn
  rw [hrw]
  refine BB (fun (s:List AC) i=>(s,i)) 0 n (by omega) (fun i s=>s=ts.take (EF ts i).toNat) (by omega) (s0:=[]) (by rw [WB fun t ht=>(h.inn t ht).1]; rfl) (fun i s next _ hi hm hnx=>?_) (fun s next hm=>?_)
  · subst hm
    dsimp only
    refine AB (fun _=>?_) (fun h=>by omega)
    obtain ⟨lo,hi',s⟩:=h.seg i
    have g1:=s.le; have g2:=s.len
    have e1:AJ ((i:Int)+1)=(i+1:Nat):=by rw [AZ (by omega) (by omega)]; omega
    rw [e1] at hnx ⊢
    refine GA (by omega) ?_
    rw [s.lo,Int.toNat_natCast]
    refine BB (fun (s:List AC) i=>(s,i)) lo hi' (by omega) (fun p st=>st=ts.take p) (by omega) rfl (fun p st nx hp1 hp2 hm hnj=>?_) (fun st nx hm=>?_)
    · subst hm
      dsimp only
      refine GA (by omega) ?_
      rw [s.hi]
      have hpl:p<ts.length:=by omega
      refine AB (fun _=>?_) (fun h=>by omega)
      refine AP (by omega) (x:=ts[p].Col) (by simp [AX,hpl]) (AP (by omega) (x:=ts[p].Val) (by simp [AX,hpl]) (BK ?_ (hnj _ ?_)))
      · simp; omega
      · rw [List.take_succ_eq_append_getElem hpl]
        congr 2
        have:=s.row p hpl (by omega) (by omega)
        rw [←this]
    · subst hm
      dsimp only
      refine GA (by omega) ?_
      rw [s.hi]
      refine AB (fun h=>by omega) (fun _=>hnx _ ?_)
      rw [s.hi,Int.toNat_natCast]
  · subst hm
    dsimp only
    refine AB (fun h=>by omega) (fun _=>?_)
    have hb:=YO h
    rw [hn,Int.toNat_natCast] at hb
    rw [hb,Int.toNat_natCast,List.take_length]; exact hQ
def qA (ts:List AC) (i j:Int):Int×Bool:=match ts.find? (fun t=>decide (key t=(i,j))) with
  | some t=>(t.Val,true)
  | none=>(0,false)
theorem AbP {ts:List AC} (h:Srt ts) {t:AC} (ht:t∈ts) {i j:Int} (hk:key t=(i,j)):qA ts i j=(t.Val,true):=by
  unfold qA
  cases hf:ts.find? (fun t=>decide (key t=(i,j))) with
  | none=>
    have:=List.find?_eq_none.1 hf t ht
    simp [hk] at this
  | some u=>
    have hu:=List.mem_of_find?_eq_some hf
    have hku:=List.find?_some hf
    simp only [decide_eq_true_eq] at hku
    obtain ⟨p,hp,rfl⟩:=List.getElem_of_mem ht
    obtain ⟨q,hq,rfl⟩:=List.getElem_of_mem hu
    have hs:=List.pairwise_iff_getElem.1 h
    rcases Nat.lt_trichotomy p q with e | e | e
    · have:=hs p q hp hq e; rw [hk,hku] at this; exact absurd this (EX _)
    · subst e; rfl
    · have:=hs q p hq hp e; rw [hk,hku] at this; exact absurd this (EX _)
theorem zL {ts:List AC} {i j:Int} (h:∀ t∈ts,key t≠(i,j)):qA ts i j=(0,false):=by
  unfold qA
  rw [List.find?_eq_none.2 (by simpa using h)]
theorem iH {a:Rows} {rows cols i j:Int} {ts:List AC} {Q:Int×Bool→Prop} (hl:KY a) (ha:VA a=AX rows cols ts) (h:Canon rows cols ts) (hQ:Q (qA ts i j)):RG a i j Q:=by
  unfold RG
  have hr0:=h.r0; have hr1:=h.r1; have hlen:=h.len
  refine tF hl ha h ?_
  have hlr:(XT rows ts i).length≤ts.length:=by
    unfold XT; split
    · have:=OU ts i.toNat; simpa using this
    · simp
  refine EB (XT rows ts i).length (by omega) (fun q=>∀ (p:Nat) (hp:p<(XT rows ts i).length),p<q→(XT rows ts i)[p].At≠j) (by simp) (fun q next hq hR hn=>?_) (fun next hR=>?_)
  · refine AB (fun _=>?_) (fun h=>by omega)
    refine BA hq (BR (fun e=>BA hq ?_) (fun e=>hn fun p hp hpq=>?_))
    · have hm:(XT rows ts i)[q]∈XT rows ts i:=List.getElem_mem hq
      generalize (XT rows ts i)[q]=x at e hm
      unfold XT at hm
      split at hm
      · rename_i hin
        obtain ⟨t,ht,rfl⟩:=List.mem_map.1 hm
        have ht2:=List.mem_filter.1 ht
        have hrow:t.Row=i:=by have:=ht2.2; simp only [decide_eq_true_eq] at this; omega
        have hcol:t.Col=j:=e
        rw [AbP h.srt ht2.1 (by unfold key; rw [hrow,hcol])] at hQ
        exact hQ
      · simp at hm
    · by_cases e':p=q
      · subst e'; exact e
      · exact hR p hp (by omega)
  · refine AB (fun h=>by omega) (fun _=>?_)
    rw [zL fun t ht hk=>?_] at hQ
    · exact hQ
    · have hin:=h.inn t ht
      unfold UM at hin
      unfold key at hk
      simp only [Prod.mk.injEq] at hk
      have hm:RH t∈XT rows ts i:=by
        unfold XT
        rw [if_pos (by omega)]
        exact List.mem_map_of_mem (List.mem_filter.2 ⟨ht,by simp; omega⟩)
      obtain ⟨q,hq,e⟩:=List.getElem_of_mem hm
      exact hR q hq hq (by rw [e]; exact hk.2)
theorem Srt.nodup {l:List AC} (h:Srt l):l.Nodup:=by
  rw [List.nodup_iff_pairwise_ne]
  exact List.Pairwise.imp (R:=fun a b=>PF (key a) (key b)) (fun {a b} hab (e:a=b)=>EX (key b) (by rw [e] at hab; exact hab)) h
theorem AbQ {l l':List AC} (h:Srt l) (h':Srt l') (he:∀ t,t∈l↔t∈l'):l=l':=
  dI ((List.perm_ext_iff_of_nodup h.nodup h'.nodup).2 he) h h' fun a b _ _ h1 h2=>absurd (MP h1 h2) (EX _)
theorem EO {rows cols:Int} {ts:List AC} (h:Canon rows cols ts):VA (AX rows cols ts)=AX rows cols ts:=by
  unfold VA; rw [if_pos h.right]
def jT (l:Int):Int:=if 0 > l then 0 else l
def oT (h n:Int):Int:=if n<h then n else h
def ext (l h n:Int):Int:=if jT l<oT h n then oT h n - jT l else 0
def LI (l h c d:Int) (ts:List AC):List AC:=(ts.filter fun t=>decide ((l≤t.Row∧t.Row<h)∧(c≤t.Col∧t.Col<d))).map fun t=>⟨t.Row - l,t.Col - c,t.Val⟩
def nE (rows cols:Int) (ts:List AC) (p q:Int×Int):Rows:=AX (ext p.1 p.2 rows) (ext q.1 q.2 cols) (LI (jT p.1) (oT p.2 rows) (jT q.1) (oT q.2 cols) ts)
theorem iI (l h n:Int) (hn:0≤n) (h1:n≤4096):0≤ext l h n∧ext l h n≤n∧0≤jT l∧oT h n≤n:=by
  unfold ext jT oT; (repeat' split) <;> omega
theorem lG {rows cols:Int} {ts:List AC} (h:Canon rows cols ts) (p q:Int×Int):Canon (ext p.1 p.2 rows) (ext q.1 q.2 cols) (LI (jT p.1) (oT p.2 rows) (jT q.1) (oT q.2 cols) ts):=by
  have h1:=iI p.1 p.2 rows h.r0 h.r1
  have h2:=iI q.1 q.2 cols h.c0 h.c1
  have h3:=h.r1; have h4:=h.c1
  refine ⟨by omega,by omega,by omega,by omega,?_,?_,?_⟩
  · have:=h.len
    unfold LI
    rw [List.length_map]
    exact Nat.le_trans (List.length_filter_le _ _) this
  · unfold Srt LI
    rw [List.pairwise_map]
    refine List.Pairwise.imp (fun {a b} hab=>?_) (List.Pairwise.filter (R:=fun a b=>PF (key a) (key b)) _ h.srt)
    unfold PF key at *
    simp only at *
    omega
  · intro t ht
    obtain ⟨u,hu,rfl⟩:=List.mem_map.1 ht
    have hc:=(List.mem_filter.1 hu).2
    simp only [decide_eq_true_eq] at hc
    have e1:ext p.1 p.2 rows=oT p.2 rows - jT p.1:=by unfold ext; rw [if_pos (by omega)]
    have e2:ext q.1 q.2 cols=oT q.2 cols - jT q.1:=by unfold ext; rw [if_pos (by omega)]
    unfold UM
    simp only
    omega
theorem lH {p:Int×Int} {n:Int} {Q:Int×Int→Prop} (h0:0≤n) (h1:n≤4096) (hQ:Q (jT p.1,ext p.1 p.2 n)):RY p n Q:=by
  unfold RY
  show AQ (decide (oT p.2 n≤jT p.1)) (Q (jT p.1,0)) (Q (jT p.1,AJ (oT p.2 n - jT p.1)))
  have hb:=iI p.1 p.2 n h0 h1
  unfold ext at hQ
  refine AB (fun h=>?_) (fun h=>?_)
  · rwa [if_neg (by omega)] at hQ
  · rw [if_pos (by omega)] at hQ
    rwa [AZ (by omega) (by omega)]
def iJ (c d:Int) (t:AC):Bool:=decide (c≤t.Col∧t.Col<d)
def shf (l c:Int) (t:AC):AC:=⟨t.Row - l,t.Col - c,t.Val⟩
theorem zM {ts:List AC} (h:Srt ts) (l c d:Int) (v:Nat) (hv:l≤v):LI l ((v:Int)+1) c d ts=LI l v c d ts++((KH ts v).filter (iJ c d)).map (shf l c):=by
  unfold LI
  rw [show (fun t:AC=>(⟨t.Row - l,t.Col - c,t.Val⟩:AC))=shf l c from rfl,←List.map_append]
  congr 1
  refine AbQ (List.Pairwise.filter _ h) (List.pairwise_append.2 ⟨List.Pairwise.filter _ h,List.Pairwise.filter _ (List.Pairwise.filter _ h),fun a ha b hb=>?_⟩) fun t=>?_
  · have h1:=(List.mem_filter.1 ha).2
    have h2:=(List.mem_filter.1 (List.mem_filter.1 hb).1).2
    simp only [decide_eq_true_eq] at h1 h2
    unfold PF key
    simp only
    omega
  · unfold KH iJ
    simp only [List.mem_append,List.mem_filter,decide_eq_true_eq]
    constructor
    · rintro ⟨h1,h2⟩
      by_cases e:t.Row=v
      · exact .inr ⟨⟨h1,e⟩,h2.2⟩
      · exact .inl ⟨h1,by omega,h2.2⟩
    · rintro (⟨h1,h2⟩ | ⟨⟨h1,h2⟩,h3⟩)
      · exact ⟨h1,by omega,h2.2⟩
      · exact ⟨h1,by omega,h3⟩
theorem nF {ts:List AC} {l h c d:Int} (hh:h≤l):LI l h c d ts=[]:=by
  unfold LI
  rw [List.filter_eq_nil_iff.2]; · rfl
  intro t ht
  simp only [decide_eq_true_eq]; omega
theorem WC {a:Rows} {rows cols:Int} {ts:List AC} {p q:Int×Int} {Q:Rows→Prop} (hl:KY a) (ha:VA a=AX rows cols ts) (h:Canon rows cols ts) (hQ:Q (nE rows cols ts p q)):LR a p q Q:=by
  unfold LR
  have hlen:=h.len
  have hr1:=h.r1; have hc1:=h.c1
  have b1:=iI p.1 p.2 rows h.r0 h.r1
  have b2:=iI q.1 q.2 cols h.c0 h.c1
  refine nD hl ?_
  rw [ha]
  refine lH h.r0 h.r1 (lH h.c0 h.c1 ?_)
  show BN _ _
  have hcan:=lG h p q
  unfold nE at hQ
  have hrl:(AX rows cols ts).Rows=rows:=rfl
  have hcl:(AX rows cols ts).Cols=cols:=rfl
  rw [hcl,hrl]
  generalize hL:jT p.1=L at *
  generalize hH:oT p.2 rows=H at *
  generalize hC:jT q.1=C at *
  generalize hD:oT q.2 cols=D at *
  have eE:ext p.1 p.2 rows=if L<H then H - L else 0:=by unfold ext; rw [hL,hH]
  have eF:ext q.1 q.2 cols=if C<D then D - C else 0:=by unfold ext; rw [hC,hD]
  generalize ext p.1 p.2 rows=E at *
  generalize ext q.1 q.2 cols=F at *
  dsimp only
  obtain ⟨n,hn⟩:∃ n:Nat,E=n:=⟨E.toNat,by omega⟩
  rw [hn]
  refine BB (fun (s:List AC) i=>(s,i)) 0 n (by omega) (fun i s=>s=LI L (L+(i:Nat)) C D ts) (by omega) (s0:=[]) (by rw [nF (by omega)]) (fun i s next _ hi hm hnx=>?_) (fun s next hm=>?_)
  · subst hm
    dsimp only
    have hLH:L<H∧E=H - L:=by
      by_cases e:L<H
      · rw [if_pos e] at eE; exact ⟨e,eE⟩
      · rw [if_neg e] at eE; omega
    obtain ⟨v,hv⟩:∃ v:Nat,L+(i:Int)=v:=⟨(L+i).toNat,by omega⟩
    have e1:AJ (L+(i:Int))=v:=by rw [AZ (by omega) (by omega)]; exact hv
    rw [e1]
    refine AB (fun _=>?_) (fun h=>by omega)
    refine tE h.sml (EO h) h ?_
    have erow:XT rows ts v=(KH ts v).map RH:=by unfold XT; rw [if_pos (by omega),Int.toNat_natCast]
    rw [erow]
    have hsl:=OU ts v
    have hrow:∀ t∈KH ts v,t.Row=v:=fun t ht=>by simpa using (List.mem_filter.1 ht).2
    have hin:∀ t∈KH ts v,UM rows cols t:=fun t ht=>h.inn t (List.mem_filter.1 ht).1
    have hcut:=zM h.srt L C D v (by omega)
    rw [show (v:Int)+1=L+((i+1:Nat):Int) by omega] at hcut
    rw [hcut] at hnx
    have hacc:(LI L v C D ts).length≤ts.length:=by
      unfold LI
      rw [List.length_map]
      exact List.length_filter_le _ _
    rw [hv]
    generalize LI L v C D ts=acc at hnx hacc
    generalize KH ts v=xs at *
    refine BB (fun (s:List AC) i=>(s,i)) 0 xs.length (by omega) (fun j s=>s=acc++((xs.take j).filter (iJ C D)).map (shf L C)) (by omega) (by simp) (fun j s nx _ hj hm hnj=>?_) (fun s nx hm=>?_)
    · subst hm
      dsimp only
      refine AB (fun _=>?_) (fun h=>by simp at h; omega)
      have hm:=List.getElem_mem hj
      have hi1:=hin _ hm
      have hr:=hrow _ hm
      unfold UM at hi1
      have hst:(xs.take (j+1)).filter (iJ C D)=(xs.take j).filter (iJ C D)++if iJ C D xs[j]=true then [xs[j]] else []:=by
        rw [List.take_succ_eq_append_getElem hj,List.filter_append,List.filter_cons,List.filter_nil]
      refine AP (by omega) (x:=RH xs[j]) (by simp [hj]) ?_
      have eAt:(RH xs[j]).At=xs[j].Col:=rfl
      have eVal:(RH xs[j]).Val=xs[j].Val:=rfl
      rw [eAt,eVal]
      refine EA (fun b=>b=iJ C D xs[j]) ?_ fun k hk=>?_
      · rintro _ rfl
        refine ⟨fun hc=>BK ?_ (hnj _ ?_),fun hc=>hnj _ ?_⟩
        · have:=List.length_filter_le (iJ C D) (xs.take j)
          have h4:(xs.take j).length≤xs.length:=by simp; omega
          simp only [List.length_append,List.length_map,List.length_singleton]
          omega
        · have hc':C≤xs[j].Col∧xs[j].Col<D:=by simpa [iJ] using hc
          rw [hst,if_pos hc,List.map_append,List.append_assoc,AZ (x:=xs[j].Col - C) (by omega) (by omega)]
          have:(⟨(i:Int),xs[j].Col - C,xs[j].Val⟩:AC)=shf L C xs[j]:=by unfold shf; rw [show (i:Int)=xs[j].Row - L by omega]
          rw [this]; rfl
        · rw [hst,if_neg (by simp [hc]),List.append_nil]
      · refine AB (fun hc=>hk _ ?_) (fun hc=>hk _ ?_)
        · unfold iJ
          apply decide_eq_decide.2
          rw [eF,AZ (x:=xs[j].Col - C) (by omega) (by omega)]
          split <;> omega
        · unfold iJ; symm; apply decide_eq_false; omega
    · subst hm
      dsimp only
      refine AB (fun h=>by simp at h) (fun _=>hnx _ ?_)
      rw [List.take_length]
  · subst hm
    dsimp only
    refine AB (fun h=>by omega) (fun _=>?_)
    have e:LI L (L+(n:Int)) C D ts=LI L H C D ts:=by
      by_cases e:L<H
      · rw [if_pos e] at eE; rw [show L+(n:Int)=H by omega]
      · rw [if_neg e] at eE; rw [nF (by omega),nF (by omega)]
    rw [e]
    rw [hn] at hcan hQ
    refine pW (by omega) (by omega) (by have:=hcan.len; omega) (fun t ht=>?_) hQ
    have:=hcan.inn t ht
    unfold UM at this
    exact ⟨this.1,this.2.1⟩
theorem wV {r rows cols:Int} {kvs:List (HZ×Int)} (h:0≤rows∧rows≤4096∧0≤cols∧cols≤4096) (hl:kvs.length≤65536) (hk:∀ t∈kvs,UM rows cols (sH t.1 0)) (hv:∀ t∈kvs,GL t.2):Canon rows cols (PT (SC r kvs) sH).1:=by
  refine ⟨h.1,h.2.1,h.2.2.1,h.2.2.2,?_,?_,?_⟩
  · exact Nat.le_trans (nB _) (by have:=(VZ r kvs hv).1; omega)
  · unfold PT
    split
    · unfold Srt
      rw [List.pairwise_map]
      exact mX r kvs
    · exact .nil
  · intro t ht
    unfold PT at ht
    split at ht
    · obtain ⟨p,hp,rfl⟩:=List.mem_map.1 ht
      obtain ⟨x,hx,e⟩:=vG hp
      have:=hk x hx
      unfold UM sH at *
      rw [←e]
      exact this
    · simp at ht
theorem AbR {x:Int} (h:YC .i64 x):GL x:=by have:=bounds_i64 h; unfold GL; omega
theorem AdG {ts:List AC} {Q:List AC→Prop} (hQ:∀ ys:List AC,ys.length≤60→(∀ t∈ys,t∈ts)→Q ys):YK ts Q:=by
  unfold YK
  refine AB (fun h=>⟨by decide,by decide,by omega,hQ _ ?_ fun t ht=>?_⟩) (fun h=>hQ _ (by omega) fun t ht=>ht)
  · simp; omega
  · exact List.mem_of_mem_take (List.mem_of_mem_drop ht)
theorem qB:KY zR:=⟨by decide,by decide,by decide⟩
theorem zN:¬QC zR:=fun h=>by have:=h.sl; simp [zR] at this
theorem qC {r rows cols:Int} {ts:List AC} (hv:∀ t∈ts,GL t.Val):((yA r rows cols ts).1=zR∧(yA r rows cols ts).2≠0)∨∃ T,Canon rows cols T∧yA r rows cols ts=(AX rows cols T,0)∧(1≤r∧r≤5)∧(∀ t∈ts,UM rows cols t)∧ts.length≤65536∧(0≤rows∧rows≤4096∧0≤cols∧cols≤4096)∧T=(PT (SC r (ts.map fM)) sH).1∧(PT (SC r (ts.map fM)) sH).2=0:=by
  unfold yA
  split
  · left; exact ⟨rfl,by simp⟩
  split
  · left; exact ⟨rfl,by simp⟩
  split
  · left; exact ⟨rfl,by simp⟩
  split
  · left; exact ⟨rfl,by simp⟩
  split
  · rename_i h; left; exact ⟨rfl,h⟩
  · rename_i h1 h2 h3 h4 h5
    right
    have h2:=Decidable.of_not_not h2
    have h4:=Decidable.of_not_not h4
    refine ⟨_,wV h2 (by simpa using h3) (fun t ht=>?_) (fun t ht=>?_),rfl,Decidable.of_not_not h1,h4,by omega,h2,rfl,Decidable.of_not_not h5⟩
    · obtain ⟨x,hx,rfl⟩:=List.mem_map.1 ht
      exact h4 x hx
    · obtain ⟨x,hx,rfl⟩:=List.mem_map.1 ht
      exact hv x hx
theorem zO {r rows cols:Int} {ts:List AC} (hv:∀ t∈ts,GL t.Val):KY (yA r rows cols ts).1:=by
  rcases qC (r:=r) (rows:=rows) (cols:=cols) hv with ⟨h,_⟩ | ⟨T,hT,h,_⟩
  · rw [h]; exact qB
  · rw [h]; exact hT.sml
theorem AbS (a:AN):GL (NA a).1:=by
  unfold NA GL
  split
  · simp only [GM]; omega
  · simp
theorem zP {r:Int} {k:HZ} {v:AN} {l:List (HZ×AN)} (h:∀ p∈l,PF p.1 k):ins r k v l=l++[(k,v)]:=by
  induction l with
  | nil=>rfl
  | cons p l ih=>unfold ins; rw [if_pos (h p (by simp)),ih fun q hq=>h q (by simp [hq])]; rfl
theorem AbT {r:Int} {T:List AC} (h:Srt T):SC r (T.map fM)=T.map fun t=>(key t,aS t.Val):=by
  suffices ∀ i,i≤T.length→SC r ((T.take i).map fM)=(T.take i).map fun t=>(key t,aS t.Val) by
    have:=this T.length (Nat.le_refl _)
    rwa [List.take_length] at this
  intro i
  induction i with
  | zero=>intro _; rfl
  | succ i ih=>
    intro hi
    rw [HC (show i<T.length by omega),HC (show i<T.length by omega),mV,ih (by omega),zP]
    · rfl
    · intro p hp
      obtain ⟨t,ht,rfl⟩:=List.mem_map.1 hp
      obtain ⟨j,hj,rfl⟩:=List.getElem_of_mem ht
      simp only [List.length_take] at hj
      rw [List.getElem_take]
      exact List.pairwise_iff_getElem.1 h j i (by omega) (by omega) (by omega)
theorem zQ {v:Int} (h:GL v):NA (aS v)=(v,true):=by
  unfold NA aS
  unfold GL at h
  simp only
  rw [if_pos]
  · rw [GM]; congr 1; omega
  · split <;> omega
theorem gD {r rows cols:Int} {T:List AC} (h:Canon rows cols T) (hv:∀ t∈T,GL t.Val) (hr:1≤r∧r≤5):yA r rows cols T=(AX rows cols T,0):=by
  have hf:PT (SC r (T.map fM)) sH=(T,0):=by
    rw [AbT h.srt]
    rw [iD (m:=[]) (.refl _) (fun p hp=>by obtain ⟨t,ht,rfl⟩:=List.mem_map.1 hp; rw [zQ (hv t ht)])]
    congr 1
    rw [List.map_map]
    refine (List.map_congr_left fun t ht=>?_).trans (List.map_id T)
    simp only [Function.comp_apply,zQ (hv t ht)]
    rfl
  have h1:=h.r0; have h2:=h.r1; have h3:=h.c0; have h4:=h.c1; have h5:=h.len
  unfold yA
  rw [if_neg (fun h=>h hr),if_neg (fun h=>h ⟨h1,h2,h3,h4⟩),if_neg (by omega),if_neg (fun h'=>h' h.inn),hf,if_neg (by simp)]
theorem vL {l h c d:Int} {T:List AC} (t:AC):t∈LI l h c d T↔(⟨t.Row+l,t.Col+c,t.Val⟩:AC)∈T∧(0≤t.Row∧t.Row+l<h)∧0≤t.Col∧t.Col+c<d:=by
  unfold LI
  simp only [List.mem_map,List.mem_filter,decide_eq_true_eq]
  constructor
  · rintro ⟨u,⟨hu,hc⟩,rfl⟩
    simp only
    rw [show u.Row - l+l=u.Row by omega,show u.Col - c+c=u.Col by omega]
    exact ⟨hu,by omega,by omega,by omega⟩
  · rintro ⟨hm,hc⟩
    refine ⟨_,⟨hm,?_⟩,?_⟩
    · simp only; omega
    · cases t; simp only [AC.mk.injEq]; exact ⟨by omega,by omega,trivial⟩
def fN (r:Int):Option AN→Option AN→Option AN
  | none,y=>y
  | some a,none=>some a
  | some a,some b=>some (GN r a b)
theorem NN (r:Int) (a:Option AN):fN r a none=a:=by cases a <;> rfl
end Go.Proofs.YtbohadngdkjljaaGreat
