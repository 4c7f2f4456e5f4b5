import Derived.Test.YtbohadngdkjljaaGreatOK
import Derived.Test.YtbohadngdkjljaaGreatCsrG
namespace Go.Proofs.YtbohadngdkjljaaGreat
open Go Go.Fw
set_option linter.unusedVariables false
set_option linter.unusedSimpArgs false
def JL (ts:List AC) (i:Nat):List AC:=ts.filter fun t=>decide (t.Row=i)
theorem AbN {ts:List AC} (h:Srt ts) (i:Nat) {lo hi:Nat} (hlo:EQ ts i=lo) (hhi:EQ ts (i+1)=hi) (hle:lo≤hi) (hl:hi≤ts.length):(ts.take hi).drop lo=JL ts i:=by
  have e:ts=ts.take lo++((ts.take hi).drop lo++ts.drop hi):=by
    have h1:ts.take lo=(ts.take hi).take lo:=by rw [List.take_take,Nat.min_eq_left hle]
    rw [←List.append_assoc,h1,List.take_append_drop,List.take_append_drop]
  have hr:∀ (p:Nat) (hp:p<ts.length),ts[p].Row=i↔lo≤p∧p<hi:=fun p hp=>by have:=h.at (i:=i) hp; omega
  unfold JL
  conv=>rhs; rw [e]
  rw [List.filter_append,List.filter_append,List.filter_eq_nil_iff.2,List.filter_eq_self.2,List.filter_eq_nil_iff.2]
  · simp
  · intro t ht
    obtain ⟨j,hj,rfl⟩:=List.getElem_of_mem ht
    simp only [List.getElem_drop,decide_eq_true_eq]
    rw [hr]; omega
  · intro t ht
    obtain ⟨j,hj,rfl⟩:=List.getElem_of_mem ht
    simp only [List.getElem_drop,List.getElem_take,decide_eq_true_eq]
    simp only [List.length_drop,List.length_take] at hj
    rw [hr]; omega
  · intro t ht
    obtain ⟨j,hj,rfl⟩:=List.getElem_of_mem ht
    simp only [List.getElem_take,decide_eq_true_eq]
    simp only [List.length_take] at hj
    rw [hr]; omega
structure Seg (ts:List AC) (i l u:Nat):Prop where
  lo:EQ ts i=l
  hi:EQ ts (i+1)=u
  le:l≤u
  len:u≤ts.length
  eq:(ts.take u).drop l=JL ts i
  row:∀ (p:Nat) (hp:p<ts.length),l≤p→p<u→ts[p].Row=i
theorem Canon.seg {rows cols:Int} {ts:List AC} (h:Canon rows cols ts) (i:Nat):∃ lo hi,Seg ts i lo hi:=by
  have hs:=TQ i ts fun t ht=>(h.inn t ht).1
  have ha:=YS ts (i+1)
  have hb:=VK ts (i+1)
  obtain ⟨lo,hlo⟩:∃ lo:Nat,EQ ts i=lo:=⟨_,rfl⟩
  obtain ⟨hi,hhi⟩:∃ hi:Nat,EQ ts (i+1)=hi:=⟨_,rfl⟩
  exact ⟨lo,hi,hlo,hhi,by omega,by omega,AbN h.srt i hlo hhi (by omega) (by omega),fun p hp h1 h2=>by have:=h.srt.at (i:=i) hp; omega⟩
theorem Canon.sml {rows cols:Int} {ts:List AC} (h:Canon rows cols ts):small (BJ rows cols ts):=by
  have:=h.r0; have:=h.r1; have:=h.len
  unfold small BJ; simp; omega
theorem MQ {rows cols:Int} {ts:List AC} {i:Nat} {K:Int→Prop} (h:(i:Int)≤rows) (hk:K (EQ ts i)):AZ (BJ rows cols ts).Start (i:Int) K:=
  AM (by omega) (MP (by simp; omega)) hk
theorem rY {rows cols:Int} {ts:List AC} {i:Nat} {Q:List Int×List Int→Prop} (h:Canon rows cols ts) (hi:(i:Int)<rows) (hQ:Q ((JL ts i).map (·.Col),(JL ts i).map (·.Val))):VA (BJ rows cols ts) i Q:=by
  unfold VA
  have hr:=h.r1
  obtain ⟨lo,hi',s⟩:=h.seg i
  have e1:AJ ((i:Int)+1)=(i+1:Nat):=by rw [AW (by omega) (by omega)]; omega
  rw [e1]
  refine MQ (by omega) (MQ (by omega) ?_)
  rw [s.lo,s.hi]
  have h1:=s.le; have h2:=s.len
  have hc:(BJ rows cols ts).Col.length=ts.length:=by simp [BJ]
  have hv:(BJ rows cols ts).Val.length=ts.length:=by simp [BJ]
  refine ⟨by omega,by omega,by omega,by omega,by omega,by omega,?_⟩
  simp only [Int.toNat_natCast,BJ,←List.map_take,←List.map_drop,s.eq]
  exact hQ
def TF (t:AC):CN:=⟨t.Col,t.Val⟩
def VM (rows:Int) (ts:List AC) (i:Int):List CN:=if 0≤i∧i<rows then (JL ts i.toNat).map TF else []
theorem MR (ts:List AC) (i:Nat):(JL ts i).length≤ts.length:=List.length_filter_le _ _
theorem pO {a:Rows} {rows cols i:Int} {ts:List AC} {Q:List CN→Prop} (hl:small a) (ha:UH a=BJ rows cols ts) (h:Canon rows cols ts) (hQ:Q (VM rows ts i)):cG a i Q:=by
  unfold cG
  have hr0:=h.r0; have hr1:=h.r1; have hlen:=h.len
  refine jV hl ?_
  rw [ha]
  have e:AJ ((BJ rows cols ts).Rows - 1)=rows - 1:=AW (by show -9223372036854775808≤rows - 1; omega) (by show rows - 1≤9223372036854775807; omega)
  rw [e]
  unfold VM at hQ
  refine ID (CP (fun hn=>?_) (fun hy=>?_))
  · have hn:¬(0≤i∧i≤rows - 1):=by simpa using hn
    rw [if_neg (by omega)] at hQ; exact hQ
  have hy:0≤i∧i≤rows - 1:=by simpa using hy
  rw [if_pos (by omega)] at hQ
  obtain ⟨n,rfl⟩:∃ n:Nat,i=n:=⟨i.toNat,by omega⟩
  rw [Int.toNat_natCast] at hQ
  refine rY h (by omega) ?_
  have hs:=MR ts n
  generalize JL ts n=xs at hQ hs
  refine BA (fun (s:List CN) i=>(s,i)) 0 xs.length (by omega) (fun i s=>s=(xs.take i).map TF) (by omega) rfl (fun i s next _ hi hm hn=>?_) (fun s next hm=>?_)
  · subst hm
    dsimp only
    refine AB (fun _=>?_) (fun h=>by simp at h; omega)
    refine AM (by omega) (x:=xs[i].Col) (by simp [hi]) (AM (by omega) (x:=xs[i].Val) (by simp [hi]) (BE ?_ (hn _ ?_)))
    · simp; omega
    · rw [EY hi]; rfl
  · subst hm
    dsimp only
    refine AB (fun h=>by simp at h) (fun _=>?_)
    rw [List.take_length]; exact hQ
theorem wO {ts:List AC} {lo p:Nat} (h1:lo≤p) (h2:p<ts.length):(ts.take (p+1)).drop lo=(ts.take p).drop lo++[ts[p]]:=by
  rw [List.take_succ_eq_append_getElem h2,List.drop_append_of_le_length (by simp; omega)]
theorem pP {a:Rows} {rows cols i:Int} {ts:List AC} {Q:List CN→Prop} (hl:small a) (ha:UH a=BJ rows cols ts) (h:Canon rows cols ts) (hQ:Q (VM rows ts i)):WD a i Q:=by
  unfold WD
  have hr0:=h.r0; have hr1:=h.r1; have hlen:=h.len
  refine mQ hl ?_
  rw [ha]
  unfold VM at hQ
  refine AB (fun hn=>?_) (fun h1=>AB (fun (hn:rows≤i)=>?_) (fun (h2:¬rows≤i)=>?_))
  · rw [if_neg (by omega)] at hQ; exact hQ
  · rw [if_neg (by omega)] at hQ; exact hQ
  rw [if_pos (by omega)] at hQ
  obtain ⟨n,rfl⟩:∃ n:Nat,i=n:=⟨i.toNat,by omega⟩
  rw [Int.toNat_natCast] at hQ
  obtain ⟨lo,hi',s⟩:=h.seg n
  have e1:AJ ((n:Int)+1)=(n+1:Nat):=by rw [AW (by omega) (by omega)]; omega
  rw [e1]
  refine MQ (by omega) ?_
  rw [s.lo]
  have g1:=s.le; have g2:=s.len
  refine BA (fun (s:List CN) i=>(s,i)) lo hi' (by omega) (fun p st=>st=((ts.take p).drop lo).map TF) (by omega) (s0:=[]) (by simp) (fun p st next hp1 hp2 hm hn=>?_) (fun st next hm=>?_)
  · subst hm
    dsimp only
    refine MQ (by omega) ?_
    rw [s.hi]
    have hpl:p<ts.length:=by omega
    refine AB (fun _=>?_) (fun h=>by omega)
    refine AM (by omega) (x:=ts[p].Col) (by simp [BJ,hpl]) (AM (by omega) (x:=ts[p].Val) (by simp [BJ,hpl]) (BE ?_ (hn _ ?_)))
    · simp; omega
    · rw [wO hp1 hpl,List.map_append]; rfl
  · subst hm
    dsimp only
    refine MQ (by omega) ?_
    rw [s.hi]
    refine AB (fun h=>by omega) (fun _=>?_)
    rw [s.eq]; exact hQ
theorem VO {a:Rows} {rows cols:Int} {ts:List AC} {Q:List AC→Prop} (hl:small a) (ha:UH a=BJ rows cols ts) (h:Canon rows cols ts) (hQ:Q ts):KU a Q:=by
  unfold KU
  have hr0:=h.r0; have hr1:=h.r1; have hlen:=h.len
  refine jV hl ?_
  rw [ha]
  obtain ⟨n,hn⟩:∃ n:Nat,rows=n:=⟨rows.toNat,by omega⟩
  have hrw:(BJ rows cols ts).Rows=n:=hn
  rw [hrw]
  refine BA (fun (s:List AC) i=>(s,i)) 0 n (by omega) (fun i s=>s=ts.take (EQ ts i).toNat) (by omega) (s0:=[]) (by rw [XM fun t ht=>(h.inn t ht).1]; rfl) (fun i s next _ hi hm hnx=>?_) (fun s next hm=>?_)
  · subst hm
    dsimp only
    refine AB (fun _=>?_) (fun h=>by omega)
    refine rY h (by omega) ?_
    obtain ⟨lo,hi',s⟩:=h.seg i
    have g1:=s.le; have g2:=s.len
    rw [s.lo,Int.toNat_natCast]
    have hsl:(JL ts i).length=hi' - lo:=by rw [←s.eq]; simp; omega
    have hgt:∀ (j:Nat) (hj:j<(JL ts i).length),(JL ts i)[j]=ts[lo+j]'(by omega):=fun j hj=>by simp [←s.eq]
    refine BA (fun (s:List AC) i=>(s,i)) 0 (JL ts i).length (by omega) (fun j st=>st=ts.take (lo+j)) (by omega) (by simp) (fun j st nx _ hj hm hnj=>?_) (fun st nx hm=>?_)
    · subst hm
      dsimp only
      refine AB (fun _=>?_) (fun h=>by simp at h; omega)
      have hpl:lo+j<ts.length:=by omega
      refine AM (by omega) (x:=ts[lo+j].Col) (by simp [hj,hgt]) (AM (by omega) (x:=ts[lo+j].Val) (by simp [hj,hgt]) (BE ?_ (hnj _ ?_)))
      · simp; omega
      · rw [show lo+(j+1)=lo+j+1 by omega,List.take_succ_eq_append_getElem hpl]
        congr 2
        have:=s.row (lo+j) hpl (by omega) (by omega)
        rw [←this]
    · subst hm
      dsimp only
      refine AB (fun h=>by simp at h) (fun _=>hnx _ ?_)
      rw [s.hi,hsl,Int.toNat_natCast]; congr 1; omega
  · subst hm
    dsimp only
    refine AB (fun h=>by omega) (fun _=>?_)
    have hb:=ZW h
    rw [hn,Int.toNat_natCast] at hb
    rw [hb,Int.toNat_natCast,List.take_length]; exact hQ
def tW (ts:List AC) (i j:Int):Int×Bool:=match ts.find? (fun t=>decide (key t=(i,j))) with
  | some t=>(t.Val,true)
  | none=>(0,false)
theorem rZ {ts:List AC} (h:Srt ts) {t:AC} (ht:t∈ts) {i j:Int} (hk:key t=(i,j)):tW ts i j=(t.Val,true):=by
  unfold tW
  cases hf:ts.find? (fun t=>decide (key t=(i,j))) with
  | none=>
    have:=List.find?_eq_none.1 hf t ht
    simp [hk] at this
  | some u=>
    have hu:=List.mem_of_find?_eq_some hf
    have hku:=List.find?_some hf
    simp only [decide_eq_true_eq] at hku
    obtain ⟨p,hp,rfl⟩:=List.getElem_of_mem ht
    obtain ⟨q,hq,rfl⟩:=List.getElem_of_mem hu
    have hs:=List.pairwise_iff_getElem.1 h
    rcases Nat.lt_trichotomy p q with e | e | e
    · have:=hs p q hp hq e; rw [hk,hku] at this; exact absurd this (EI _)
    · subst e; rfl
    · have:=hs q p hq hp e; rw [hk,hku] at this; exact absurd this (EI _)
theorem mR {ts:List AC} {i j:Int} (h:∀ t∈ts,key t≠(i,j)):tW ts i j=(0,false):=by
  unfold tW
  rw [List.find?_eq_none.2 (by simpa using h)]
theorem pQ {a:Rows} {rows cols i j:Int} {ts:List AC} {Q:Int×Bool→Prop} (hl:small a) (ha:UH a=BJ rows cols ts) (h:Canon rows cols ts) (hQ:Q (tW ts i j)):WE a i j Q:=by
  unfold WE
  have hr0:=h.r0; have hr1:=h.r1; have hlen:=h.len
  refine pP hl ha h ?_
  have hlr:(VM rows ts i).length≤ts.length:=by
    unfold VM; split
    · have:=MR ts i.toNat; simpa using this
    · simp
  refine DF (VM rows ts i).length (by omega) (fun q=>∀ (p:Nat) (hp:p<(VM rows ts i).length),p<q→(VM rows ts i)[p].At≠j) (by simp) (fun q next hq hR hn=>?_) (fun next hR=>?_)
  · refine AB (fun _=>?_) (fun h=>by omega)
    refine AV hq (CC (fun e=>AV hq ?_) (fun e=>hn fun p hp hpq=>?_))
    · have hm:(VM rows ts i)[q]∈VM rows ts i:=List.getElem_mem hq
      generalize (VM rows ts i)[q]=x at e hm
      unfold VM at hm
      split at hm
      · rename_i hin
        obtain ⟨t,ht,rfl⟩:=List.mem_map.1 hm
        have ht2:=List.mem_filter.1 ht
        have hrow:t.Row=i:=by have:=ht2.2; simp only [decide_eq_true_eq] at this; omega
        have hcol:t.Col=j:=e
        rw [rZ h.srt ht2.1 (by unfold key; rw [hrow,hcol])] at hQ
        exact hQ
      · simp at hm
    · by_cases e':p=q
      · subst e'; exact e
      · exact hR p hp (by omega)
  · refine AB (fun h=>by omega) (fun _=>?_)
    rw [mR fun t ht hk=>?_] at hQ
    · exact hQ
    · have hin:=h.inn t ht
      unfold SD at hin
      unfold key at hk
      simp only [Prod.mk.injEq] at hk
      have hm:TF t∈VM rows ts i:=by
        unfold VM
        rw [if_pos (by omega)]
        exact List.mem_map_of_mem (List.mem_filter.2 ⟨ht,by simp; omega⟩)
      obtain ⟨q,hq,e⟩:=List.getElem_of_mem hm
      exact hR q hq hq (by rw [e]; exact hk.2)
theorem Srt.nodup {l:List AC} (h:Srt l):l.Nodup:=by
  rw [List.nodup_iff_pairwise_ne]
  exact List.Pairwise.imp (R:=fun a b=>MO (key a) (key b)) (fun {a b} hab (e:a=b)=>EI (key b) (by rw [e] at hab; exact hab)) h
theorem zZ {l l':List AC} (h:Srt l) (h':Srt l') (he:∀ t,t∈l↔t∈l'):l=l':=
  ZT ((List.perm_ext_iff_of_nodup h.nodup h'.nodup).2 he) h h' fun a b _ _ h1 h2=>absurd (KX h1 h2) (EI _)
theorem KQ {rows cols:Int} {ts:List AC} (h:Canon rows cols ts):UH (BJ rows cols ts)=BJ rows cols ts:=by
  unfold UH; rw [if_pos h.right]
def fQ (l:Int):Int:=if 0 > l then 0 else l
def lF (h n:Int):Int:=if n<h then n else h
def ext (l h n:Int):Int:=if fQ l<lF h n then lF h n - fQ l else 0
def JZ (l h c d:Int) (ts:List AC):List AC:=(ts.filter fun t=>decide ((l≤t.Row∧t.Row<h)∧(c≤t.Col∧t.Col<d))).map fun t=>⟨t.Row - l,t.Col - c,t.Val⟩
def jW (rows cols:Int) (ts:List AC) (p q:Int×Int):Rows:=BJ (ext p.1 p.2 rows) (ext q.1 q.2 cols) (JZ (fQ p.1) (lF p.2 rows) (fQ q.1) (lF q.2 cols) ts)
theorem dV (l h n:Int) (hn:0≤n) (h1:n≤4096):0≤ext l h n∧ext l h n≤n∧0≤fQ l∧lF h n≤n:=by
  unfold ext fQ lF; (repeat' split) <;> omega
theorem gY {rows cols:Int} {ts:List AC} (h:Canon rows cols ts) (p q:Int×Int):Canon (ext p.1 p.2 rows) (ext q.1 q.2 cols) (JZ (fQ p.1) (lF p.2 rows) (fQ q.1) (lF q.2 cols) ts):=by
  have h1:=dV p.1 p.2 rows h.r0 h.r1
  have h2:=dV q.1 q.2 cols h.c0 h.c1
  have h3:=h.r1; have h4:=h.c1
  refine ⟨by omega,by omega,by omega,by omega,?_,?_,?_⟩
  · have:=h.len
    unfold JZ
    rw [List.length_map]
    exact Nat.le_trans (List.length_filter_le _ _) this
  · unfold Srt JZ
    rw [List.pairwise_map]
    refine List.Pairwise.imp (fun {a b} hab=>?_) (List.Pairwise.filter (R:=fun a b=>MO (key a) (key b)) _ h.srt)
    unfold MO key at *
    simp only at *
    omega
  · intro t ht
    obtain ⟨u,hu,rfl⟩:=List.mem_map.1 ht
    have hc:=(List.mem_filter.1 hu).2
    simp only [decide_eq_true_eq] at hc
    have e1:ext p.1 p.2 rows=lF p.2 rows - fQ p.1:=by unfold ext; rw [if_pos (by omega)]
    have e2:ext q.1 q.2 cols=lF q.2 cols - fQ q.1:=by unfold ext; rw [if_pos (by omega)]
    unfold SD
    simp only
    omega
theorem gZ {p:Int×Int} {n:Int} {Q:Int×Int→Prop} (h0:0≤n) (h1:n≤4096) (hQ:Q (fQ p.1,ext p.1 p.2 n)):PW p n Q:=by
  unfold PW
  show AP (decide (lF p.2 n≤fQ p.1)) (Q (fQ p.1,0)) (Q (fQ p.1,AJ (lF p.2 n - fQ p.1)))
  have hb:=dV p.1 p.2 n h0 h1
  unfold ext at hQ
  refine AB (fun h=>?_) (fun h=>?_)
  · rwa [if_neg (by omega)] at hQ
  · rw [if_pos (by omega)] at hQ
    rwa [AW (by omega) (by omega)]
def dW (c d:Int) (t:AC):Bool:=decide (c≤t.Col∧t.Col<d)
def shf (l c:Int) (t:AC):AC:=⟨t.Row - l,t.Col - c,t.Val⟩
theorem wP {ts:List AC} (h:Srt ts) (l c d:Int) (v:Nat) (hv:l≤v):JZ l ((v:Int)+1) c d ts=JZ l v c d ts++((JL ts v).filter (dW c d)).map (shf l c):=by
  unfold JZ
  rw [show (fun t:AC=>(⟨t.Row - l,t.Col - c,t.Val⟩:AC))=shf l c from rfl,←List.map_append]
  congr 1
  refine zZ (List.Pairwise.filter _ h) (List.pairwise_append.2 ⟨List.Pairwise.filter _ h,List.Pairwise.filter _ (List.Pairwise.filter _ h),fun a ha b hb=>?_⟩) fun t=>?_
  · have h1:=(List.mem_filter.1 ha).2
    have h2:=(List.mem_filter.1 (List.mem_filter.1 hb).1).2
    simp only [decide_eq_true_eq] at h1 h2
    unfold MO key
    simp only
    omega
  · unfold JL dW
    simp only [List.mem_append,List.mem_filter,decide_eq_true_eq]
    constructor
    · rintro ⟨h1,h2⟩
      by_cases e:t.Row=v
      · exact .inr ⟨⟨h1,e⟩,h2.2⟩
      · exact .inl ⟨h1,by omega,h2.2⟩
    · rintro (⟨h1,h2⟩ | ⟨⟨h1,h2⟩,h3⟩)
      · exact ⟨h1,by omega,h2.2⟩
      · exact ⟨h1,by omega,h3⟩
theorem jX {ts:List AC} {l h c d:Int} (hh:h≤l):JZ l h c d ts=[]:=by
  unfold JZ
  rw [List.filter_eq_nil_iff.2]; · rfl
  intro t ht
  simp only [decide_eq_true_eq]; omega
theorem TR {a:Rows} {rows cols:Int} {ts:List AC} {p q:Int×Int} {Q:Rows→Prop} (hl:small a) (ha:UH a=BJ rows cols ts) (h:Canon rows cols ts) (hQ:Q (jW rows cols ts p q)):KG a p q Q:=by
  unfold KG
  have hlen:=h.len
  have hr1:=h.r1; have hc1:=h.c1
  have b1:=dV p.1 p.2 rows h.r0 h.r1
  have b2:=dV q.1 q.2 cols h.c0 h.c1
  refine jV hl ?_
  rw [ha]
  refine gZ h.r0 h.r1 (gZ h.c0 h.c1 ?_)
  show BG _ _
  have hcan:=gY h p q
  unfold jW at hQ
  have hrl:(BJ rows cols ts).Rows=rows:=rfl
  have hcl:(BJ rows cols ts).Cols=cols:=rfl
  rw [hcl,hrl]
  generalize hL:fQ p.1=L at *
  generalize hH:lF p.2 rows=H at *
  generalize hC:fQ q.1=C at *
  generalize hD:lF q.2 cols=D at *
  have eE:ext p.1 p.2 rows=if L<H then H - L else 0:=by unfold ext; rw [hL,hH]
  have eF:ext q.1 q.2 cols=if C<D then D - C else 0:=by unfold ext; rw [hC,hD]
  generalize ext p.1 p.2 rows=E at *
  generalize ext q.1 q.2 cols=F at *
  dsimp only
  obtain ⟨n,hn⟩:∃ n:Nat,E=n:=⟨E.toNat,by omega⟩
  rw [hn]
  refine BA (fun (s:List AC) i=>(s,i)) 0 n (by omega) (fun i s=>s=JZ L (L+(i:Nat)) C D ts) (by omega) (s0:=[]) (by rw [jX (by omega)]) (fun i s next _ hi hm hnx=>?_) (fun s next hm=>?_)
  · subst hm
    dsimp only
    have hLH:L<H∧E=H - L:=by
      by_cases e:L<H
      · rw [if_pos e] at eE; exact ⟨e,eE⟩
      · rw [if_neg e] at eE; omega
    obtain ⟨v,hv⟩:∃ v:Nat,L+(i:Int)=v:=⟨(L+i).toNat,by omega⟩
    have e1:AJ (L+(i:Int))=v:=by rw [AW (by omega) (by omega)]; exact hv
    rw [e1]
    refine AB (fun _=>?_) (fun h=>by omega)
    refine pO h.sml (KQ h) h ?_
    have erow:VM rows ts v=(JL ts v).map TF:=by unfold VM; rw [if_pos (by omega),Int.toNat_natCast]
    rw [erow]
    have hsl:=MR ts v
    have hrow:∀ t∈JL ts v,t.Row=v:=fun t ht=>by simpa using (List.mem_filter.1 ht).2
    have hin:∀ t∈JL ts v,SD rows cols t:=fun t ht=>h.inn t (List.mem_filter.1 ht).1
    have hcut:=wP h.srt L C D v (by omega)
    rw [show (v:Int)+1=L+((i+1:Nat):Int) by omega] at hcut
    rw [hcut] at hnx
    have hacc:(JZ L v C D ts).length≤ts.length:=by
      unfold JZ
      rw [List.length_map]
      exact List.length_filter_le _ _
    rw [hv]
    generalize JZ L v C D ts=acc at hnx hacc
    generalize JL ts v=xs at *
    refine BA (fun (s:List AC) i=>(s,i)) 0 xs.length (by omega) (fun j s=>s=acc++((xs.take j).filter (dW C D)).map (shf L C)) (by omega) (by simp) (fun j s nx _ hj hm hnj=>?_) (fun s nx hm=>?_)
    · subst hm
      dsimp only
      refine AB (fun _=>?_) (fun h=>by simp at h; omega)
      have hm:=List.getElem_mem hj
      have hi1:=hin _ hm
      have hr:=hrow _ hm
      unfold SD at hi1
      have hst:(xs.take (j+1)).filter (dW C D)=(xs.take j).filter (dW C D)++if dW C D xs[j]=true then [xs[j]] else []:=by
        rw [List.take_succ_eq_append_getElem hj,List.filter_append,List.filter_cons,List.filter_nil]
      refine AM (by omega) (x:=TF xs[j]) (by simp [hj]) ?_
      have eAt:(TF xs[j]).At=xs[j].Col:=rfl
      have eVal:(TF xs[j]).Val=xs[j].Val:=rfl
      rw [eAt,eVal]
      refine FD (fun b=>b=dW C D xs[j]) ?_ fun k hk=>?_
      · rintro _ rfl
        refine ⟨fun hc=>BE ?_ (hnj _ ?_),fun hc=>hnj _ ?_⟩
        · have:=List.length_filter_le (dW C D) (xs.take j)
          have h4:(xs.take j).length≤xs.length:=by simp; omega
          simp only [List.length_append,List.length_map,List.length_singleton]
          omega
        · have hc':C≤xs[j].Col∧xs[j].Col<D:=by simpa [dW] using hc
          rw [hst,if_pos hc,List.map_append,List.append_assoc,AW (x:=xs[j].Col - C) (by omega) (by omega)]
          have:(⟨(i:Int),xs[j].Col - C,xs[j].Val⟩:AC)=shf L C xs[j]:=by unfold shf; rw [show (i:Int)=xs[j].Row - L by omega]
          rw [this]; rfl
        · rw [hst,if_neg (by simp [hc]),List.append_nil]
      · refine AB (fun hc=>hk _ ?_) (fun hc=>hk _ ?_)
        · unfold dW
          apply decide_eq_decide.2
          rw [eF,AW (x:=xs[j].Col - C) (by omega) (by omega)]
          split <;> omega
        · unfold dW; symm; apply decide_eq_false; omega
    · subst hm
      dsimp only
      refine AB (fun h=>by simp at h) (fun _=>hnx _ ?_)
      rw [List.take_length]
  · subst hm
    dsimp only
    refine AB (fun h=>by omega) (fun _=>?_)
    have e:JZ L (L+(n:Int)) C D ts=JZ L H C D ts:=by
      by_cases e:L<H
      · rw [if_pos e] at eE; rw [show L+(n:Int)=H by omega]
      · rw [if_neg e] at eE; rw [jX (by omega),jX (by omega)]
    rw [e]
    rw [hn] at hcan hQ
    refine mN (by omega) (by omega) (by have:=hcan.len; omega) (fun t ht=>?_) hQ
    have:=hcan.inn t ht
    unfold SD at this
    exact ⟨this.1,this.2.1⟩
theorem tX {r rows cols:Int} {kvs:List (EX×Int)} (h:0≤rows∧rows≤4096∧0≤cols∧cols≤4096) (hl:kvs.length≤65536) (hk:∀ t∈kvs,SD rows cols (mL t.1 0)) (hv:∀ t∈kvs,GS t.2):Canon rows cols (LM (SC r kvs) mL).1:=by
  refine ⟨h.1,h.2.1,h.2.2.1,h.2.2.2,?_,?_,?_⟩
  · exact Nat.le_trans (jT _) (by have:=(RP r kvs hv).1; omega)
  · unfold LM
    split
    · unfold Srt
      rw [List.pairwise_map]
      exact XL r kvs
    · exact .nil
  · intro t ht
    unfold LM at ht
    split at ht
    · obtain ⟨p,hp,rfl⟩:=List.mem_map.1 ht
      obtain ⟨x,hx,e⟩:=rV hp
      have:=hk x hx
      unfold SD mL at *
      rw [←e]
      exact this
    · simp at ht
def pR (n:Int) (e:BN):Prop:=(0≤e.From∧e.From<n)∧(0≤e.To∧e.To<n)
instance (n:Int) (e:BN):Decidable (pR n e):=by unfold pR; infer_instance
def pS (e:BN):Prop:=0≤e.W∧e.W≤2147483647
instance (e:BN):Decidable (pS e):=by unfold pS; infer_instance
def OG (g:CA):Int:=
  if g.N<0 then 3 else if 4096<g.N∨65536<g.Edges.length then 5 else if ¬ ∀ e∈g.Edges,pR g.N e then 3 else if ¬ ∀ e∈g.Edges,pS e then 7 else 0
theorem RQ {g:CA} (h:OG g=0):0≤g.N∧g.N≤4096∧g.Edges.length≤65536∧(∀ e∈g.Edges,pR g.N e)∧∀ e∈g.Edges,pS e:=by
  unfold OG at h
  split at h
  · omega
  · split at h
    · omega
    · split at h
      · omega
      · split at h
        · omega
        · rename_i h1 h2 h3 h4
          exact ⟨by omega,by omega,by omega,Decidable.of_not_not h3,Decidable.of_not_not h4⟩
theorem XN {g:CA} {Q:Int→Prop} (hQ:Q (OG g)):RK g Q:=by
  unfold RK
  unfold OG at hQ
  refine AB (fun h=>?_) (fun h=>?_)
  · rwa [if_pos h] at hQ
  rw [if_neg h] at hQ
  have h5 (h:4096<g.N∨65536<g.Edges.length):Q 5:=by rwa [if_pos h] at hQ
  refine AB (fun h=>h5 (.inl h)) (fun h1=>AB (fun h=>h5 (.inr (by omega))) (fun h2=>?_))
  rw [if_neg (by omega)] at hQ
  refine DF g.Edges.length (by omega) (fun i=>∀ (j:Nat) (hj:j<g.Edges.length),j<i→pR g.N g.Edges[j]) (by simp) (fun i next hi hR hn=>?_) (fun next hR=>?_)
  · refine AB (fun _=>?_) (fun h=>by omega)
    have hbad (hb:¬pR g.N g.Edges[i]):Q 3:=by rwa [if_pos (fun h'=>hb (h' _ (List.getElem_mem hi)))] at hQ
    refine AV hi ?_
    refine AB (fun h1=>hbad fun hh=>by unfold pR at hh; omega) (fun h1=>?_)
    refine AB (fun h2=>hbad fun hh=>by unfold pR at hh; omega) (fun h2=>?_)
    refine AB (fun h3=>hbad fun hh=>by unfold pR at hh; omega) (fun h3=>?_)
    refine AB (fun h4=>hbad fun hh=>by unfold pR at hh; omega) (fun h4=>hn fun j hj hji=>?_)
    by_cases e:j=i
    · subst e; unfold pR; omega
    · exact hR j hj (by omega)
  · refine AB (fun h=>by omega) (fun _=>?_)
    have hall:∀ e∈g.Edges,pR g.N e:=fun e he=>by
      obtain ⟨j,hj,rfl⟩:=List.getElem_of_mem he
      exact hR j hj hj
    rw [if_neg (fun h=>h hall)] at hQ
    refine DF g.Edges.length (by omega) (fun i=>∀ (j:Nat) (hj:j<g.Edges.length),j<i→pS g.Edges[j]) (by simp) (fun i next hi hR hn=>?_) (fun next hR=>?_)
    · refine AB (fun _=>?_) (fun h=>by omega)
      have hbad (hb:¬pS g.Edges[i]):Q 7:=by rwa [if_pos (fun h'=>hb (h' _ (List.getElem_mem hi)))] at hQ
      refine AV hi (AB (fun h1=>hbad fun hh=>by unfold pS at hh; omega) (fun h1=>AV hi (AB (fun h2=>hbad fun hh=>by unfold pS at hh; omega) (fun h2=>hn fun j hj hji=>?_))))
      by_cases e:j=i
      · subst e; unfold pS; omega
      · exact hR j hj (by omega)
    · refine AB (fun h=>by omega) (fun _=>?_)
      rwa [if_neg (fun h=>h fun e he=>by
        obtain ⟨j,hj,rfl⟩:=List.getElem_of_mem he
        exact hR j hj hj)] at hQ
def kvF (e:BN):EX×Int:=((e.To,e.From),e.W)
def wQ (e:BN):BN:=⟨e.To,e.From,e.W⟩
def FG (g:CA):List AC:=(LM (SC 1 (g.Edges.map kvF)) mL).1
theorem bF {g:CA} (h:OG g=0):Canon g.N g.N (FG g):=by
  obtain ⟨h1,h2,h3,h4,h5⟩:=RQ h
  refine tX ⟨h1,h2,h1,h2⟩ (by simpa using h3) (fun t ht=>?_) (fun t ht=>?_)
  · obtain ⟨e,he,rfl⟩:=List.mem_map.1 ht
    have:=h4 e he
    unfold pR at this
    unfold SD mL kvF
    simp only
    omega
  · obtain ⟨e,he,rfl⟩:=List.mem_map.1 ht
    have:=h5 e he
    unfold pS at this
    unfold GS kvF
    simp only
    omega
def pT (g:CA):Rows×Int:=if OG g=0 then (BJ g.N g.N (FG g),0) else (zR,OG g)
theorem wR:small zR:=⟨by decide,by decide,by decide⟩
theorem wT:¬OE zR:=fun h=>by have:=h.sl; simp [zR] at this
def AcR (r:Int) (k:EX) (ts:List (EX×Int)):Option AL:=ts.foldl (fun o t=>if k=t.1 then some (match o with | some w=>FM r w (QH t.2) | none=>QH t.2) else o) none
theorem wU (r:Int) (k:EX) (ts:List (EX×Int)):BM k (SC r ts)=AcR r k ts:=by
  suffices ∀ (ts:List (EX×Int)) (l:List (EX×AL)),srt l→BM k (ts.foldl (fun l t=>ins r t.1 (QH t.2) l) l)=ts.foldl (fun o t=>if k=t.1 then some (match o with | some w=>FM r w (QH t.2) | none=>QH t.2) else o) (BM k l) from this ts [] .nil
  intro ts
  induction ts with
  | nil=>intro l _; rfl
  | cons t ts ih=>
    intro l h
    simp only [List.foldl_cons]
    rw [ih _ (cI h),jP k h]
    congr 1
    by_cases e:k=t.1
    · subst e; rfl
    · rw [if_neg e,if_neg e]
def sw (p:EX×AL):EX×AL:=((p.1.2,p.1.1),p.2)
theorem wV (k:EX):∀ l:List (EX×AL),BM k (l.map sw)=BM (k.2,k.1) l
  | []=>rfl
  | p :: l=>by
    obtain ⟨⟨a,b⟩,w⟩:=p
    obtain ⟨c,d⟩:=k
    simp only [List.map_cons,BM,sw,wV (c,d) l,Prod.mk.injEq]
    by_cases e:c=b∧d=a
    · rw [if_pos e,if_pos ⟨e.2,e.1⟩]
    · rw [if_neg e,if_neg fun h=>e ⟨h.2,h.1⟩]
theorem Aa0 {l:List (EX×AL)} (h:EP l):EP (l.map sw):=by
  unfold EP at *
  rw [List.nodup_iff_pairwise_ne,List.pairwise_map] at h
  rw [List.nodup_iff_pairwise_ne,List.pairwise_map,List.pairwise_map]
  refine List.Pairwise.imp (fun {a b} hab e=>hab ?_) h
  obtain ⟨⟨a1,a2⟩,w⟩:=a
  obtain ⟨⟨b1,b2⟩,v⟩:=b
  simp only [sw,Prod.mk.injEq] at *
  exact ⟨e.2,e.1⟩
theorem sE (es:List BN):((SC 1 (es.map jQ)).map sw).Perm (SC 1 (es.map kvF)):=by
  refine ZS (Aa0 (VH (XL _ _))) (VH (XL _ _)) fun k=>?_
  rw [wV,wU,wU]
  unfold AcR
  rw [List.foldl_map,List.foldl_map]
  congr 1
  funext o e
  obtain ⟨c,d⟩:=k
  simp only [jQ,kvF,Prod.mk.injEq]
  by_cases h:d=e.From∧c=e.To
  · rw [if_pos h,if_pos ⟨h.2,h.1⟩]
  · rw [if_neg h,if_neg fun h'=>h ⟨h'.2,h'.1⟩]
theorem jY {v:Int} (h:GS v):KP (QH v)=(v,true):=by
  unfold KP QH
  unfold GS at h
  simp only
  rw [if_pos]
  · rw [HG]; congr 1; omega
  · split <;> omega
theorem AbO (ts:List (EX×Int)) (hv:∀ t∈ts,GS t.2):∀ p∈SC 1 ts,∃ v,GS v∧p.2=QH v:=by
  suffices ∀ (ts:List (EX×Int)) (l:List (EX×AL)),(∀ t∈ts,GS t.2)→(∀ p∈l,∃ v,GS v∧p.2=QH v)→∀ p∈ts.foldl (fun l t=>ins 1 t.1 (QH t.2) l) l,∃ v,GS v∧p.2=QH v from this ts [] hv (by simp)
  have hins:∀ (k:EX) (v:Int),GS v→∀ l:List (EX×AL),(∀ p∈l,∃ v,GS v∧p.2=QH v)→∀ p∈ins 1 k (QH v) l,∃ v,GS v∧p.2=QH v:=by
    intro k v hv l
    induction l with
    | nil=>intro _ p hp; simp [ins] at hp; exact ⟨v,hv,by rw [hp]⟩
    | cons q l ih=>
      intro h p hp
      unfold ins at hp
      split at hp
      · rcases List.mem_cons.1 hp with rfl | hp
        · exact h _ (by simp)
        · exact ih (fun x hx=>h x (by simp [hx])) p hp
      · split at hp
        · rcases List.mem_cons.1 hp with rfl | hp
          · obtain ⟨u,hu,e⟩:=h q (by simp)
            unfold FM
            simp only [true_or,if_true]
            split
            · exact ⟨u,hu,e⟩
            · exact ⟨v,hv,rfl⟩
          · exact h p (by simp [hp])
        · rcases List.mem_cons.1 hp with rfl | hp
          · exact ⟨v,hv,rfl⟩
          · exact h p hp
  intro ts
  induction ts with
  | nil=>intro l _ h; exact h
  | cons t ts ih=>intro l ht h; exact ih _ (fun x hx=>ht x (by simp [hx])) (hins _ _ (ht t (by simp)) l h)
theorem cK {α:Type} {mk:EX→Int→α} {ts:List (EX×Int)} (hv:∀ t∈ts,GS t.2):LM (SC 1 ts) mk=((SC 1 ts).map (fun p=>mk p.1 (KP p.2).1),0):=by
  refine YR (m:=[]) (.refl _) fun p hp=>?_
  obtain ⟨v,h1,h2⟩:=AbO ts hv p hp
  rw [h2,jY h1]
theorem wW {r:Int} {k:EX} {v:AL} {l:List (EX×AL)} (h:∀ p∈l,MO p.1 k):ins r k v l=l++[(k,v)]:=by
  induction l with
  | nil=>rfl
  | cons p l ih=>unfold ins; rw [if_pos (h p (by simp)),ih fun q hq=>h q (by simp [hq])]; rfl
theorem sF {r:Int} {T:List AC} (h:Srt T):SC r (T.map cJ)=T.map fun t=>(key t,QH t.Val):=by
  suffices ∀ i,i≤T.length→SC r ((T.take i).map cJ)=(T.take i).map fun t=>(key t,QH t.Val) by
    have:=this T.length (Nat.le_refl _)
    rwa [List.take_length] at this
  intro i
  induction i with
  | zero=>intro _; rfl
  | succ i ih=>
    intro hi
    rw [EY (show i<T.length by omega),EY (show i<T.length by omega),jO,ih (by omega),wW]
    · rfl
    · intro p hp
      obtain ⟨t,ht,rfl⟩:=List.mem_map.1 hp
      obtain ⟨j,hj,rfl⟩:=List.getElem_of_mem ht
      simp only [List.length_take] at hj
      rw [List.getElem_take]
      exact List.pairwise_iff_getElem.1 h j i (by omega) (by omega) (by omega)
theorem wX {v:Int} (h:GS v):KP (QH v)=(v,true):=by
  unfold KP QH
  unfold GS at h
  simp only
  rw [if_pos]
  · rw [HG]; congr 1; omega
  · split <;> omega
theorem cL {r rows cols:Int} {T:List AC} (h:Canon rows cols T) (hv:∀ t∈T,GS t.Val) (hr:1≤r∧r≤5):ofS r rows cols T=(BJ rows cols T,0):=by
  have hf:LM (SC r (T.map cJ)) mL=(T,0):=by
    rw [sF h.srt]
    rw [YR (m:=[]) (.refl _) (fun p hp=>by obtain ⟨t,ht,rfl⟩:=List.mem_map.1 hp; rw [wX (hv t ht)])]
    congr 1
    rw [List.map_map]
    refine (List.map_congr_left fun t ht=>?_).trans (List.map_id T)
    simp only [Function.comp_apply,wX (hv t ht)]
    rfl
  have h1:=h.r0; have h2:=h.r1; have h3:=h.c0; have h4:=h.c1; have h5:=h.len
  unfold ofS
  rw [if_neg (fun h=>h hr),if_neg (fun h=>h ⟨h1,h2,h3,h4⟩),if_neg (by omega),if_neg (fun h'=>h' h.inn),hf,if_neg (by simp)]
theorem sG {l h c d:Int} {T:List AC} (t:AC):t∈JZ l h c d T↔(⟨t.Row+l,t.Col+c,t.Val⟩:AC)∈T∧(0≤t.Row∧t.Row+l<h)∧0≤t.Col∧t.Col+c<d:=by
  unfold JZ
  simp only [List.mem_map,List.mem_filter,decide_eq_true_eq]
  constructor
  · rintro ⟨u,⟨hu,hc⟩,rfl⟩
    simp only
    rw [show u.Row - l+l=u.Row by omega,show u.Col - c+c=u.Col by omega]
    exact ⟨hu,by omega,by omega,by omega⟩
  · rintro ⟨hm,hc⟩
    refine ⟨_,⟨hm,?_⟩,?_⟩
    · simp only; omega
    · cases t; simp only [AC.mk.injEq]; exact ⟨by omega,by omega,trivial⟩
def cN (r:Int):Option AL→Option AL→Option AL
  | none,y=>y
  | some a,none=>some a
  | some a,some b=>some (FM r a b)
theorem LN (r:Int) (a:Option AL):cN r a none=a:=by cases a <;> rfl
end Go.Proofs.YtbohadngdkjljaaGreat
