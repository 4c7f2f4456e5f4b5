import Derived.Test.YtbohadngdkjljaaGreatOK
import Derived.Test.YtbohadngdkjljaaGreatCsrG
namespace Go.Proofs.YtbohadngdkjljaaGreat
open Go Go.Fw
set_option linter.unusedVariables false
set_option linter.unusedSimpArgs false
variable {ts:List A3}
def JY (ts:List A3) (i:Nat):List A3:=ts.filter fun t=>decide (t.Row=i)
theorem AcR (h:Srt ts) (i:Nat) {lo hi:Nat} (W:E6 ts i=lo) (U:E6 ts (i+1)=hi) (J:lo≤hi) (hl:hi≤ts.length):(ts.take hi).drop lo=JY ts i:=by
 have e:ts=ts.take lo++((ts.take hi).drop lo++ts.drop hi):=by
   have V:ts.take lo=(ts.take hi).take lo:=by rw [List.take_take,Nat.min_eq_left J]
   rw [←List.append_assoc,V,List.take_append_drop,List.take_append_drop]
 have O:∀ (p:Nat) (hp:p<ts.length),ts[p].Row=i↔lo≤p∧p<hi:=fun p hp=>by have:=h.at (i:=i) hp; omega
 unfold JY
 conv=>rhs; rw [e]
 rw [List.filter_append,List.filter_append,List.filter_eq_nil_iff.2,List.filter_eq_self.2,List.filter_eq_nil_iff.2]
 · simp
 · intro t D
   obtain ⟨j,G,rfl⟩:=List.getElem_of_mem D
   simp only [List.getElem_drop,decide_eq_true_eq]
   rw [O]; omega
 · intro t D
   obtain ⟨j,G,rfl⟩:=List.getElem_of_mem D
   simp only [List.getElem_drop,List.getElem_take,decide_eq_true_eq]
   simp only [List.length_drop,List.length_take] at G
   rw [O]; omega
 · intro t D
   obtain ⟨j,G,rfl⟩:=List.getElem_of_mem D
   simp only [List.getElem_take,decide_eq_true_eq]
   simp only [List.length_take] at G
   rw [O]; omega
structure Seg (ts:List A3) (i l u:Nat):Prop where
 lo:E6 ts i=l
 hi:E6 ts (i+1)=u
 le:l≤u
 len:u≤ts.length
 eq:(ts.take u).drop l=JY ts i
 row:∀ (p:Nat) (hp:p<ts.length),l≤p→p<u→ts[p].Row=i
theorem Canon.seg {rows cols:Int} (h:Canon rows cols ts) (i:Nat):∃ lo hi,Seg ts i lo hi:=by
 have hs:=TN i ts fun t J=>(h.inn t J).1
 have ha:=ZF ts (i+1)
 have hb:=V5 ts (i+1)
 obtain ⟨lo,G⟩:∃ lo:Nat,E6 ts i=lo:=⟨_,rfl⟩
 obtain ⟨hi,D⟩:∃ hi:Nat,E6 ts (i+1)=hi:=⟨_,rfl⟩
 exact ⟨lo,hi,G,D,by omega,by omega,AcR h.srt i G D (by omega) (by omega),fun p hp h1 h2=>by have:=h.srt.at (i:=i) hp; omega⟩
theorem Canon.sml {rows cols:Int} (h:Canon rows cols ts):KV (B0 rows cols ts):=by
 have:=h.r0; have:=h.r1; have:=h.len
 unfold KV B0; simp; omega
theorem FY {rows cols:Int} {i:Nat} {K:Int→Prop} (h:(i:Int)≤rows) (hk:K (E6 ts i)):AN (B0 rows cols ts).Start (i:Int) K:=
 A9 (by omega) (NS (by simp; omega)) hk
theorem tI {rows cols:Int} {i:Nat} {Q:List Int×List Int→Prop} (h:Canon rows cols ts) (hi:(i:Int)<rows) (G:Q ((JY ts i).map (·.Col),(JY ts i).map (·.Val))):UW (B0 rows cols ts) i Q:=by
 unfold UW
 have hr:=h.r1
 obtain ⟨lo,D,s⟩:=h.seg i
 have J:A7 ((i:Int)+1)=(i+1:Nat):=by rw [AJ (by omega) (by omega)]; omega
 rw [J]
 refine FY (by omega) (FY (by omega) ?_)
 rw [s.lo,s.hi]
 have h1:=s.le; have h2:=s.len
 have hc:(B0 rows cols ts).Col.length=ts.length:=by simp [B0]
 have hv:(B0 rows cols ts).Val.length=ts.length:=by simp [B0]
 refine ⟨by omega,by omega,by omega,by omega,by omega,by omega,?_⟩
 simp only [Int.toNat_natCast,B0,←List.map_take,←List.map_drop,s.eq]
 exact G
def PU (t:A3):CN:=⟨t.Col,t.Val⟩
def V7 (rows:Int) (ts:List A3) (i:Int):List CN:=if 0≤i∧i<rows then (JY ts i.toNat).map PU else []
theorem NU (ts:List A3) (i:Nat):(JY ts i).length≤ts.length:=List.length_filter_le _ _
theorem qZ {a:Rows} {rows cols i:Int} {Q:List CN→Prop} (hl:KV a) (Z:RU a=B0 rows cols ts) (h:Canon rows cols ts) (D:Q (V7 rows ts i)):dV a i Q:=by
 unfold dV
 have Y:=h.r0; have V:=h.r1; have U:=h.len
 refine lA hl ?_
 rw [Z]
 have e:A7 ((B0 rows cols ts).Rows - 1)=rows - 1:=AJ (by show -9223372036854775808≤rows - 1; omega) (by show rows - 1≤9223372036854775807; omega)
 rw [e]
 unfold V7 at D
 refine IP (CF (fun G=>?_) (fun O=>?_))
 · have G:¬(0≤i∧i≤rows - 1):=by simpa using G
   rw [if_neg (by omega)] at D; exact D
 have O:0≤i∧i≤rows - 1:=by simpa using O
 rw [if_pos (by omega)] at D
 obtain ⟨n,rfl⟩:∃ n:Nat,i=n:=⟨i.toNat,by omega⟩
 rw [Int.toNat_natCast] at D
 refine tI h (by omega) ?_
 have W:=NU ts n
 generalize JY ts n=xs at D W
 refine B2 (fun (s:List CN) i=>(s,i)) 0 xs.length (by omega) (fun i s=>s=(xs.take i).map PU) (by omega) rfl (fun i s next _ hi J G=>?_) (fun s next J=>?_)
 · subst J
   dsimp only
   refine A0 (fun _=>?_) (fun h=>by simp at h; omega)
   refine A9 (by omega) (x:=xs[i].Col) (by simp [hi]) (A9 (by omega) (x:=xs[i].Val) (by simp [hi]) (AR ?_ (G _ ?_)))
   · simp; omega
   · rw [GO hi]; rfl
 · subst J
   dsimp only
   refine A0 (fun h=>by simp at h) (fun _=>?_)
   rw [List.take_length]; exact D
theorem nZ {lo p:Nat} (h1:lo≤p) (h:p<ts.length):(ts.take (p+1)).drop lo=(ts.take p).drop lo++[ts[p]]:=by
 rw [List.take_succ_eq_append_getElem h,List.drop_append_of_le_length (by simp; omega)]
theorem rA {a:Rows} {rows cols i:Int} {Q:List CN→Prop} (hl:KV a) (ha:RU a=B0 rows cols ts) (h:Canon rows cols ts) (D:Q (V7 rows ts i)):WK a i Q:=by
 unfold WK
 have hr0:=h.r0; have Z:=h.r1; have Y:=h.len
 refine M6 hl ?_
 rw [ha]
 unfold V7 at D
 refine A0 (fun J=>?_) (fun h1=>A0 (fun (J:rows≤i)=>?_) (fun (h2:¬rows≤i)=>?_))
 · rw [if_neg (by omega)] at D; exact D
 · rw [if_neg (by omega)] at D; exact D
 rw [if_pos (by omega)] at D
 obtain ⟨n,rfl⟩:∃ n:Nat,i=n:=⟨i.toNat,by omega⟩
 rw [Int.toNat_natCast] at D
 obtain ⟨lo,U,s⟩:=h.seg n
 have e1:A7 ((n:Int)+1)=(n+1:Nat):=by rw [AJ (by omega) (by omega)]; omega
 rw [e1]
 refine FY (by omega) ?_
 rw [s.lo]
 have g1:=s.le; have g2:=s.len
 refine B2 (fun (s:List CN) i=>(s,i)) lo U (by omega) (fun p W=>W=((ts.take p).drop lo).map PU) (by omega) (s0:=[]) (by simp) (fun p W next V hp2 O J=>?_) (fun W next O=>?_)
 · subst O
   dsimp only
   refine FY (by omega) ?_
   rw [s.hi]
   have G:p<ts.length:=by omega
   refine A0 (fun _=>?_) (fun h=>by omega)
   refine A9 (by omega) (x:=ts[p].Col) (by simp [B0,G]) (A9 (by omega) (x:=ts[p].Val) (by simp [B0,G]) (AR ?_ (J _ ?_)))
   · simp; omega
   · rw [nZ V G,List.map_append]; rfl
 · subst O
   dsimp only
   refine FY (by omega) ?_
   rw [s.hi]
   refine A0 (fun h=>by omega) (fun _=>?_)
   rw [s.eq]; exact D
theorem V8 {a:Rows} {rows cols:Int} {Q:List A3→Prop} (hl:KV a) (ha:RU a=B0 rows cols ts) (h:Canon rows cols ts) (hQ:Q ts):M0 a Q:=by
 unfold M0
 have hr0:=h.r0; have hr1:=h.r1; have hlen:=h.len
 refine lA hl ?_
 rw [ha]
 obtain ⟨n,hn⟩:∃ n:Nat,rows=n:=⟨rows.toNat,by omega⟩
 have Z:(B0 rows cols ts).Rows=n:=hn
 rw [Z]
 refine B2 (fun (s:List A3) i=>(s,i)) 0 n (by omega) (fun i s=>s=ts.take (E6 ts i).toNat) (by omega) (s0:=[]) (by rw [TP fun t ht=>(h.inn t ht).1]; rfl) (fun i s next _ hi D U=>?_) (fun s next D=>?_)
 · subst D
   dsimp only
   refine A0 (fun _=>?_) (fun h=>by omega)
   refine tI h (by omega) ?_
   obtain ⟨lo,Y,s⟩:=h.seg i
   have g1:=s.le; have g2:=s.len
   rw [s.lo,Int.toNat_natCast]
   have V:(JY ts i).length=Y - lo:=by rw [←s.eq]; simp; omega
   have J:∀ (j:Nat) (O:j<(JY ts i).length),(JY ts i)[j]=ts[lo+j]'(by omega):=fun j O=>by simp [←s.eq]
   refine B2 (fun (s:List A3) i=>(s,i)) 0 (JY ts i).length (by omega) (fun j st=>st=ts.take (lo+j)) (by omega) (by simp) (fun j st nx _ O D W=>?_) (fun st nx D=>?_)
   · subst D
     dsimp only
     refine A0 (fun _=>?_) (fun h=>by simp at h; omega)
     have G:lo+j<ts.length:=by omega
     refine A9 (by omega) (x:=ts[lo+j].Col) (by simp [O,J]) (A9 (by omega) (x:=ts[lo+j].Val) (by simp [O,J]) (AR ?_ (W _ ?_)))
     · simp; omega
     · rw [show lo+(j+1)=lo+j+1 by omega,List.take_succ_eq_append_getElem G]
       congr 2
       have:=s.row (lo+j) G (by omega) (by omega)
       rw [←this]
   · subst D
     dsimp only
     refine A0 (fun h=>by simp at h) (fun _=>U _ ?_)
     rw [s.hi,V,Int.toNat_natCast]; congr 1; omega
 · subst D
   dsimp only
   refine A0 (fun h=>by omega) (fun _=>?_)
   have hb:=WO h
   rw [hn,Int.toNat_natCast] at hb
   rw [hb,Int.toNat_natCast,List.take_length]; exact hQ
theorem MV {a:Rows} {rows cols:Int} {Q:List A3→Prop} (hl:KV a) (ha:RU a=B0 rows cols ts) (h:Canon rows cols ts) (hQ:Q ts):GY a Q:=by
 unfold GY
 have hr0:=h.r0; have hr1:=h.r1; have hlen:=h.len
 refine M6 hl ?_
 rw [ha]
 obtain ⟨n,Y⟩:∃ n:Nat,rows=n:=⟨rows.toNat,by omega⟩
 have V:(B0 rows cols ts).Rows=n:=Y
 rw [V]
 refine B2 (fun (s:List A3) i=>(s,i)) 0 n (by omega) (fun i s=>s=ts.take (E6 ts i).toNat) (by omega) (s0:=[]) (by rw [TP fun t ht=>(h.inn t ht).1]; rfl) (fun i s next _ hi G J=>?_) (fun s next G=>?_)
 · subst G
   dsimp only
   refine A0 (fun _=>?_) (fun h=>by omega)
   obtain ⟨lo,U,s⟩:=h.seg i
   have g1:=s.le; have g2:=s.len
   have e1:A7 ((i:Int)+1)=(i+1:Nat):=by rw [AJ (by omega) (by omega)]; omega
   rw [e1] at J ⊢
   refine FY (by omega) ?_
   rw [s.lo,Int.toNat_natCast]
   refine B2 (fun (s:List A3) i=>(s,i)) lo U (by omega) (fun p W=>W=ts.take p) (by omega) rfl (fun p W nx hp1 hp2 G O=>?_) (fun W nx G=>?_)
   · subst G
     dsimp only
     refine FY (by omega) ?_
     rw [s.hi]
     have D:p<ts.length:=by omega
     refine A0 (fun _=>?_) (fun h=>by omega)
     refine A9 (by omega) (x:=ts[p].Col) (by simp [B0,D]) (A9 (by omega) (x:=ts[p].Val) (by simp [B0,D]) (AR ?_ (O _ ?_)))
     · simp; omega
     · rw [List.take_succ_eq_append_getElem D]
       congr 2
       have:=s.row p D (by omega) (by omega)
       rw [←this]
   · subst G
     dsimp only
     refine FY (by omega) ?_
     rw [s.hi]
     refine A0 (fun h=>by omega) (fun _=>J _ ?_)
     rw [s.hi,Int.toNat_natCast]
 · subst G
   dsimp only
   refine A0 (fun h=>by omega) (fun _=>?_)
   have Z:=WO h
   rw [Y,Int.toNat_natCast] at Z
   rw [Z,Int.toNat_natCast,List.take_length]; exact hQ
def oA (ts:List A3) (i j:Int):Int×Bool:=match ts.find? (fun t=>decide (key t=(i,j))) with
 | some t=>(t.Val,true)
 | none=>(0,false)
theorem AaV (h:Srt ts) {t:A3} (O:t∈ts) {i j:Int} (hk:key t=(i,j)):oA ts i j=(t.Val,true):=by
 unfold oA
 cases hf:ts.find? (fun t=>decide (key t=(i,j))) with
 | none=>
  have:=List.find?_eq_none.1 hf t O
  simp [hk] at this
 | some u=>
  have U:=List.mem_of_find?_eq_some hf
  have D:=List.find?_some hf
  simp only [decide_eq_true_eq] at D
  obtain ⟨p,hp,rfl⟩:=List.getElem_of_mem O
  obtain ⟨q,J,rfl⟩:=List.getElem_of_mem U
  have G:=List.pairwise_iff_getElem.1 h
  rcases Nat.lt_trichotomy p q with e | e | e
  · have:=G p q hp J e; rw [hk,D] at this; exact absurd this (EH _)
  · subst e; rfl
  · have:=G q p J hp e; rw [hk,D] at this; exact absurd this (EH _)
theorem xU {i j:Int} (h:∀ t∈ts,key t≠(i,j)):oA ts i j=(0,false):=by
 unfold oA
 rw [List.find?_eq_none.2 (by simpa using h)]
theorem eZ {a:Rows} {rows cols i j:Int} {Q:Int×Bool→Prop} (hl:KV a) (ha:RU a=B0 rows cols ts) (h:Canon rows cols ts) (Y:Q (oA ts i j)):SV a i j Q:=by
 unfold SV
 have hr0:=h.r0; have hr1:=h.r1; have hlen:=h.len
 refine rA hl ha h ?_
 have hlr:(V7 rows ts i).length≤ts.length:=by
   unfold V7; split
   · have:=NU ts i.toNat; simpa using this
   · simp
 refine D7 (V7 rows ts i).length (by omega) (fun q=>∀ (p:Nat) (hp:p<(V7 rows ts i).length),p<q→(V7 rows ts i)[p].At≠j) (by simp) (fun q next G Z hn=>?_) (fun next Z=>?_)
 · refine A0 (fun _=>?_) (fun h=>by omega)
   refine AK G (BA (fun e=>AK G ?_) (fun e=>hn fun p hp hpq=>?_))
   · have D:(V7 rows ts i)[q]∈V7 rows ts i:=List.getElem_mem G
     generalize (V7 rows ts i)[q]=x at e D
     unfold V7 at D
     split at D
     · rename_i V
       obtain ⟨t,W,rfl⟩:=List.mem_map.1 D
       have U:=List.mem_filter.1 W
       have J:t.Row=i:=by have:=U.2; simp only [decide_eq_true_eq] at this; omega
       have O:t.Col=j:=e
       rw [AaV h.srt U.1 (by unfold key; rw [J,O])] at Y
       exact Y
     · simp at D
   · by_cases e':p=q
     · subst e'; exact e
     · exact Z p hp (by omega)
 · refine A0 (fun h=>by omega) (fun _=>?_)
   rw [xU fun t W hk=>?_] at Y
   · exact Y
   · have V:=h.inn t W
     unfold RC at V
     unfold key at hk
     simp only [Prod.mk.injEq] at hk
     have D:PU t∈V7 rows ts i:=by
       unfold V7
       rw [if_pos (by omega)]
       exact List.mem_map_of_mem (List.mem_filter.2 ⟨W,by simp; omega⟩)
     obtain ⟨q,G,e⟩:=List.getElem_of_mem D
     exact Z q G G (by rw [e]; exact hk.2)
theorem Srt.nodup {l:List A3} (h:Srt l):l.Nodup:=by
 rw [List.nodup_iff_pairwise_ne]
 exact List.Pairwise.imp (R:=fun a b=>MF (key a) (key b)) (fun {a b} D (e:a=b)=>EH (key b) (by rw [e] at D; exact D)) h
theorem AaW {l D:List A3} (h:Srt l) (G:Srt D) (he:∀ t,t∈l↔t∈D):l=D:=
 bG ((List.perm_ext_iff_of_nodup h.nodup G.nodup).2 he) h G fun a b _ _ O J=>absurd (IM O J) (EH _)
theorem D8 {rows cols:Int} (h:Canon rows cols ts):RU (B0 rows cols ts)=B0 rows cols ts:=by
 unfold RU; rw [if_pos h.right]
def UG (l:Int):Int:=if 0 > l then 0 else l
def WY (h n:Int):Int:=if n<h then n else h
def ext (l h n:Int):Int:=if UG l<WY h n then WY h n - UG l else 0
def HI (l h c d:Int) (ts:List A3):List A3:=(ts.filter fun t=>decide ((l≤t.Row∧t.Row<h)∧(c≤t.Col∧t.Col<d))).map fun t=>⟨t.Row - l,t.Col - c,t.Val⟩
def bI (rows cols:Int) (ts:List A3) (p q:Int×Int):Rows:=B0 (ext p.1 p.2 rows) (ext q.1 q.2 cols) (HI (UG p.1) (WY p.2 rows) (UG q.1) (WY q.2 cols) ts)
theorem Y5 (l h n:Int) (hn:0≤n) (h1:n≤4096):0≤ext l h n∧ext l h n≤n∧0≤UG l∧WY h n≤n:=by
 unfold ext UG WY; (repeat' split) <;> omega
theorem bJ {rows cols:Int} (h:Canon rows cols ts) (p q:Int×Int):Canon (ext p.1 p.2 rows) (ext q.1 q.2 cols) (HI (UG p.1) (WY p.2 rows) (UG q.1) (WY q.2 cols) ts):=by
 have h1:=Y5 p.1 p.2 rows h.r0 h.r1
 have h2:=Y5 q.1 q.2 cols h.c0 h.c1
 have h3:=h.r1; have h4:=h.c1
 refine ⟨by omega,by omega,by omega,by omega,?_,?_,?_⟩
 · have:=h.len
   unfold HI
   rw [List.length_map]
   exact Nat.le_trans (List.length_filter_le _ _) this
 · unfold Srt HI
   rw [List.pairwise_map]
   refine List.Pairwise.imp (fun {a b} J=>?_) (List.Pairwise.filter (R:=fun a b=>MF (key a) (key b)) _ h.srt)
   unfold MF key at *
   simp only at *
   omega
 · intro t G
   obtain ⟨u,O,rfl⟩:=List.mem_map.1 G
   have D:=(List.mem_filter.1 O).2
   simp only [decide_eq_true_eq] at D
   have e1:ext p.1 p.2 rows=WY p.2 rows - UG p.1:=by unfold ext; rw [if_pos (by omega)]
   have e2:ext q.1 q.2 cols=WY q.2 cols - UG q.1:=by unfold ext; rw [if_pos (by omega)]
   unfold RC
   simp only
   omega
theorem iW {p:Int×Int} {n:Int} {Q:Int×Int→Prop} (G:0≤n) (J:n≤4096) (D:Q (UG p.1,ext p.1 p.2 n)):Q8 p n Q:=by
 unfold Q8
 show AD (decide (WY p.2 n≤UG p.1)) (Q (UG p.1,0)) (Q (UG p.1,A7 (WY p.2 n - UG p.1)))
 have hb:=Y5 p.1 p.2 n G J
 unfold ext at D
 refine A0 (fun h=>?_) (fun h=>?_)
 · rwa [if_neg (by omega)] at D
 · rw [if_pos (by omega)] at D
   rwa [AJ (by omega) (by omega)]
theorem Y6 {a:Rows} {rows cols:Int} {p q:Int×Int} {Q:Rows→Prop} (hl:KV a) (ha:RU a=B0 rows cols ts) (h:Canon rows cols ts) (hQ:Q (bI rows cols ts p q)):M4 a p q Q:=by
 unfold M4
 have hlen:=h.len
 refine M6 hl ?_
 rw [ha]
 refine MV h.sml (D8 h) h ?_
 have Z:(B0 rows cols ts).Rows=rows:=rfl
 have hcl:(B0 rows cols ts).Cols=cols:=rfl
 rw [hcl,Z]
 have b1:=Y5 p.1 p.2 rows h.r0 h.r1
 have b2:=Y5 q.1 q.2 cols h.c0 h.c1
 have hr1:=h.r1; have hc1:=h.c1
 have D:=bJ h p q
 have hbuilt (xs:List A3) (Y:HI (UG p.1) (WY p.2 rows) (UG q.1) (WY q.2 cols) ts=xs):HS (ext p.1 p.2 rows) (ext q.1 q.2 cols) xs Q:=by
   subst Y
   refine ZG (by omega) (by omega) (by have:=D.len; omega) (fun t J=>?_) hQ
   have:=D.inn t J
   unfold RC at this
   exact ⟨this.1,this.2.1⟩
 have hf:∀ x:Int,(if 0 > x then 0 else x)=UG x:=fun _=>rfl
 have hg:∀ x n:Int,(if n<x then n else x)=WY x n:=fun _ _=>rfl
 simp only [hf,hg]
 refine B2 (fun (s:List A3) i=>(s,i)) 0 ts.length (by omega) (fun i s=>s=HI (UG p.1) (WY p.2 rows) (UG q.1) (WY q.2 cols) (ts.take i)) (by omega) (s0:=[]) rfl (fun i s next _ hi V hn=>?_) (fun s next V=>?_)
 · subst V
   dsimp only
   refine A0 (fun _=>?_) (fun h=>by omega)
   have hin:=h.inn _ (List.getElem_mem hi)
   unfold RC at hin
   have O:HI (UG p.1) (WY p.2 rows) (UG q.1) (WY q.2 cols) (ts.take (i+1))=HI (UG p.1) (WY p.2 rows) (UG q.1) (WY q.2 cols) (ts.take i)++if (UG p.1≤ts[i].Row∧ts[i].Row<WY p.2 rows)∧(UG q.1≤ts[i].Col∧ts[i].Col<WY q.2 cols) then [⟨ts[i].Row - UG p.1,ts[i].Col - UG q.1,ts[i].Val⟩] else []:=by
     unfold HI
     rw [List.take_succ_eq_append_getElem hi,List.filter_append,List.filter_cons,List.filter_nil,List.map_append]
     simp only [decide_eq_true_eq]
     congr 1
     split <;> rfl
   refine CJ (fun b=>b=decide ((UG p.1≤ts[i].Row∧ts[i].Row<WY p.2 rows)∧(UG q.1≤ts[i].Col∧ts[i].Col<WY q.2 cols))) ?_ fun k hk=>?_
   · rintro _ rfl
     refine A0 (fun U=>AK hi (AK hi (AK hi (AR ?_ (hn _ ?_))))) (fun U=>hn _ ?_)
     · have W:(HI (UG p.1) (WY p.2 rows) (UG q.1) (WY q.2 cols) (ts.take i)).length≤ts.length:=by
         unfold HI
         rw [List.length_map]
         exact Nat.le_trans (List.length_filter_le _ _) (by simp; omega)
       simp only [List.length_singleton]; omega
     · rw [O,if_pos U,AJ (by omega) (by omega),AJ (by omega) (by omega)]
     · rw [O,if_neg U,List.append_nil]
   · refine AK hi (A0 (fun h1=>AK hi (A0 (fun W=>AK hi (A0 (fun h3=>AK hi (hk _ ?_)) (fun h3=>hk _ ?_))) (fun W=>hk _ ?_))) (fun h1=>hk _ ?_))
     · apply decide_eq_decide.2; simp [h1,W,h3]
     all_goals (symm; apply decide_eq_false; intro G; omega)
 · subst V
   dsimp only
   rw [List.take_length]
   refine A0 (fun h=>by omega) (fun _=>?_)
   refine CJ (fun x=>x=ext p.1 p.2 rows) ?_ fun k hk=>?_
   · rintro _ rfl
     refine CJ (fun x=>x=ext q.1 q.2 cols) ?_ fun k hk=>?_
     · rintro _ rfl
       refine BA (fun e=>hbuilt _ ?_) (fun e1=>BA (fun e=>hbuilt _ ?_) (fun e2=>hbuilt _ rfl))
       · apply List.eq_nil_iff_forall_not_mem.2
         intro t J
         have:=D.inn t J
         unfold RC at this; omega
       · apply List.eq_nil_iff_forall_not_mem.2
         intro t J
         have:=D.inn t J
         unfold RC at this; omega
     · refine A0 (fun G=>hk _ ?_) (fun G=>hk _ ?_)
       · unfold ext at b2 ⊢; rw [if_pos G] at b2 ⊢; exact AJ (by omega) (by omega)
       · unfold ext; rw [if_neg G]
   · refine A0 (fun G=>hk _ ?_) (fun G=>hk _ ?_)
     · unfold ext at b1 ⊢; rw [if_pos G] at b1 ⊢; exact AJ (by omega) (by omega)
     · unfold ext; rw [if_neg G]
def fA (c d:Int) (t:A3):Bool:=decide (c≤t.Col∧t.Col<d)
def shf (l c:Int) (t:A3):A3:=⟨t.Row - l,t.Col - c,t.Val⟩
theorem xV (h:Srt ts) (l c d:Int) (v:Nat) (hv:l≤v):HI l ((v:Int)+1) c d ts=HI l v c d ts++((JY ts v).filter (fA c d)).map (shf l c):=by
 unfold HI
 rw [show (fun t:A3=>(⟨t.Row - l,t.Col - c,t.Val⟩:A3))=shf l c from rfl,←List.map_append]
 congr 1
 refine AaW (List.Pairwise.filter _ h) (List.pairwise_append.2 ⟨List.Pairwise.filter _ h,List.Pairwise.filter _ (List.Pairwise.filter _ h),fun a O b J=>?_⟩) fun t=>?_
 · have D:=(List.mem_filter.1 O).2
   have G:=(List.mem_filter.1 (List.mem_filter.1 J).1).2
   simp only [decide_eq_true_eq] at D G
   unfold MF key
   simp only
   omega
 · unfold JY fA
   simp only [List.mem_append,List.mem_filter,decide_eq_true_eq]
   constructor
   · rintro ⟨D,G⟩
     by_cases e:t.Row=v
     · exact .inr ⟨⟨D,e⟩,G.2⟩
     · exact .inl ⟨D,by omega,G.2⟩
   · rintro (⟨D,G⟩ | ⟨⟨D,G⟩,h3⟩)
     · exact ⟨D,by omega,G.2⟩
     · exact ⟨D,by omega,h3⟩
theorem lB {l h c d:Int} (hh:h≤l):HI l h c d ts=[]:=by
 unfold HI
 rw [List.filter_eq_nil_iff.2]; · rfl
 intro t ht
 simp only [decide_eq_true_eq]; omega
theorem TQ {a:Rows} {rows cols:Int} {p q:Int×Int} {Q:Rows→Prop} (hl:KV a) (ha:RU a=B0 rows cols ts) (h:Canon rows cols ts) (hQ:Q (bI rows cols ts p q)):LD a p q Q:=by
 unfold LD
 have hlen:=h.len
 have hr1:=h.r1; have hc1:=h.c1
 have b1:=Y5 p.1 p.2 rows h.r0 h.r1
 have b2:=Y5 q.1 q.2 cols h.c0 h.c1
 refine lA hl ?_
 rw [ha]
 refine iW h.r0 h.r1 (iW h.c0 h.c1 ?_)
 show B1 _ _
 have G:=bJ h p q
 unfold bI at hQ
 have hrl:(B0 rows cols ts).Rows=rows:=rfl
 have hcl:(B0 rows cols ts).Cols=cols:=rfl
 rw [hcl,hrl]
 generalize hL:UG p.1=L at *
 generalize hH:WY p.2 rows=H at *
 generalize hC:UG q.1=C at *
 generalize hD:WY q.2 cols=D at *
 have eE:ext p.1 p.2 rows=if L<H then H - L else 0:=by unfold ext; rw [hL,hH]
 have eF:ext q.1 q.2 cols=if C<D then D - C else 0:=by unfold ext; rw [hC,hD]
 generalize ext p.1 p.2 rows=E at *
 generalize ext q.1 q.2 cols=F at *
 dsimp only
 obtain ⟨n,hn⟩:∃ n:Nat,E=n:=⟨E.toNat,by omega⟩
 rw [hn]
 refine B2 (fun (s:List A3) i=>(s,i)) 0 n (by omega) (fun i s=>s=HI L (L+(i:Nat)) C D ts) (by omega) (s0:=[]) (by rw [lB (by omega)]) (fun i s next _ hi J U=>?_) (fun s next J=>?_)
 · subst J
   dsimp only
   have hLH:L<H∧E=H - L:=by
     by_cases e:L<H
     · rw [if_pos e] at eE; exact ⟨e,eE⟩
     · rw [if_neg e] at eE; omega
   obtain ⟨v,hv⟩:∃ v:Nat,L+(i:Int)=v:=⟨(L+i).toNat,by omega⟩
   have e1:A7 (L+(i:Int))=v:=by rw [AJ (by omega) (by omega)]; exact hv
   rw [e1]
   refine A0 (fun _=>?_) (fun h=>by omega)
   refine qZ h.sml (D8 h) h ?_
   have erow:V7 rows ts v=(JY ts v).map PU:=by unfold V7; rw [if_pos (by omega),Int.toNat_natCast]
   rw [erow]
   have hsl:=NU ts v
   have W:∀ t∈JY ts v,t.Row=v:=fun t Z=>by simpa using (List.mem_filter.1 Z).2
   have hin:∀ t∈JY ts v,RC rows cols t:=fun t Z=>h.inn t (List.mem_filter.1 Z).1
   have O:=xV h.srt L C D v (by omega)
   rw [show (v:Int)+1=L+((i+1:Nat):Int) by omega] at O
   rw [O] at U
   have hacc:(HI L v C D ts).length≤ts.length:=by
     unfold HI
     rw [List.length_map]
     exact List.length_filter_le _ _
   rw [hv]
   generalize HI L v C D ts=acc at U hacc
   generalize JY ts v=xs at *
   refine B2 (fun (s:List A3) i=>(s,i)) 0 xs.length (by omega) (fun j s=>s=acc++((xs.take j).filter (fA C D)).map (shf L C)) (by omega) (by simp) (fun j s nx _ hj J Y=>?_) (fun s nx J=>?_)
   · subst J
     dsimp only
     refine A0 (fun _=>?_) (fun h=>by simp at h; omega)
     have J:=List.getElem_mem hj
     have hi1:=hin _ J
     have hr:=W _ J
     unfold RC at hi1
     have hst:(xs.take (j+1)).filter (fA C D)=(xs.take j).filter (fA C D)++if fA C D xs[j]=true then [xs[j]] else []:=by
       rw [List.take_succ_eq_append_getElem hj,List.filter_append,List.filter_cons,List.filter_nil]
     refine A9 (by omega) (x:=PU xs[j]) (by simp [hj]) ?_
     have eAt:(PU xs[j]).At=xs[j].Col:=rfl
     have eVal:(PU xs[j]).Val=xs[j].Val:=rfl
     rw [eAt,eVal]
     refine CJ (fun b=>b=fA C D xs[j]) ?_ fun k hk=>?_
     · rintro _ rfl
       refine ⟨fun V=>AR ?_ (Y _ ?_),fun V=>Y _ ?_⟩
       · have:=List.length_filter_le (fA C D) (xs.take j)
         have h4:(xs.take j).length≤xs.length:=by simp; omega
         simp only [List.length_append,List.length_map,List.length_singleton]
         omega
       · have hc':C≤xs[j].Col∧xs[j].Col<D:=by simpa [fA] using V
         rw [hst,if_pos V,List.map_append,List.append_assoc,AJ (x:=xs[j].Col - C) (by omega) (by omega)]
         have:(⟨(i:Int),xs[j].Col - C,xs[j].Val⟩:A3)=shf L C xs[j]:=by unfold shf; rw [show (i:Int)=xs[j].Row - L by omega]
         rw [this]; rfl
       · rw [hst,if_neg (by simp [V]),List.append_nil]
     · refine A0 (fun V=>hk _ ?_) (fun V=>hk _ ?_)
       · unfold fA
         apply decide_eq_decide.2
         rw [eF,AJ (x:=xs[j].Col - C) (by omega) (by omega)]
         split <;> omega
       · unfold fA; symm; apply decide_eq_false; omega
   · subst J
     dsimp only
     refine A0 (fun h=>by simp at h) (fun _=>U _ ?_)
     rw [List.take_length]
 · subst J
   dsimp only
   refine A0 (fun h=>by omega) (fun _=>?_)
   have e:HI L (L+(n:Int)) C D ts=HI L H C D ts:=by
     by_cases e:L<H
     · rw [if_pos e] at eE; rw [show L+(n:Int)=H by omega]
     · rw [if_neg e] at eE; rw [lB (by omega),lB (by omega)]
   rw [e]
   rw [hn] at G hQ
   refine nV (by omega) (by omega) (by have:=G.len; omega) (fun t Z=>?_) hQ
   have:=G.inn t Z
   unfold RC at this
   exact ⟨this.1,this.2.1⟩
theorem uX {r rows cols:Int} {kvs:List (HO×Int)} (h:0≤rows∧rows≤4096∧0≤cols∧cols≤4096) (hl:kvs.length≤65536) (hk:∀ t∈kvs,RC rows cols (qF t.1 0)) (G:∀ t∈kvs,GN t.2):Canon rows cols (ON (SC r kvs) qF).1:=by
 refine ⟨h.1,h.2.1,h.2.2.1,h.2.2.2,?_,?_,?_⟩
 · exact Nat.le_trans (kZ _) (by have:=(TM r kvs G).1; omega)
 · unfold ON
   split
   · unfold Srt
     rw [List.pairwise_map]
     exact kW r kvs
   · exact .nil
 · intro t D
   unfold ON at D
   split at D
   · obtain ⟨p,hp,rfl⟩:=List.mem_map.1 D
     obtain ⟨x,J,e⟩:=tE hp
     have:=hk x J
     unfold RC qF at *
     rw [←e]
     exact this
   · simp at D
theorem AaX {x:Int} (h:UC .i64 x):GN x:=by have:=bounds_i64 h; unfold GN; omega
theorem AcS {Q:List A3→Prop} (G:∀ ys:List A3,ys.length≤60→(∀ t∈ys,t∈ts)→Q ys):WL ts Q:=by
 unfold WL
 refine A0 (fun h=>⟨by decide,by decide,by omega,G _ ?_ fun t D=>?_⟩) (fun h=>G _ (by omega) fun t D=>D)
 · simp; omega
 · exact List.mem_of_mem_take (List.mem_of_mem_drop D)
theorem oB:KV zR:=⟨by decide,by decide,by decide⟩
theorem xW:¬NT zR:=fun h=>by have:=h.sl; simp [zR] at this
theorem oC {r rows cols:Int} (V:∀ t∈ts,GN t.Val):((wO r rows cols ts).1=zR∧(wO r rows cols ts).2≠0)∨∃ T,Canon rows cols T∧wO r rows cols ts=(B0 rows cols T,0)∧(1≤r∧r≤5)∧(∀ t∈ts,RC rows cols t)∧ts.length≤65536∧(0≤rows∧rows≤4096∧0≤cols∧cols≤4096)∧T=(ON (SC r (ts.map dI)) qF).1∧(ON (SC r (ts.map dI)) qF).2=0:=by
 unfold wO
 split
 · left; exact ⟨rfl,by simp⟩
 split
 · left; exact ⟨rfl,by simp⟩
 split
 · left; exact ⟨rfl,by simp⟩
 split
 · left; exact ⟨rfl,by simp⟩
 split
 · rename_i h; left; exact ⟨rfl,h⟩
 · rename_i Y G W D U
   right
   have G:=Decidable.of_not_not G
   have D:=Decidable.of_not_not D
   refine ⟨_,uX G (by simpa using W) (fun t J=>?_) (fun t J=>?_),rfl,Decidable.of_not_not Y,D,by omega,G,rfl,Decidable.of_not_not U⟩
   · obtain ⟨x,O,rfl⟩:=List.mem_map.1 J
     exact D x O
   · obtain ⟨x,O,rfl⟩:=List.mem_map.1 J
     exact V x O
theorem xX {r rows cols:Int} (G:∀ t∈ts,GN t.Val):KV (wO r rows cols ts).1:=by
 rcases oC (r:=r) (rows:=rows) (cols:=cols) G with ⟨h,_⟩ | ⟨T,D,h,_⟩
 · rw [h]; exact oB
 · rw [h]; exact D.sml
def T0:List A3:=[⟨0,1,3⟩,⟨1,2,7⟩]
theorem AaY (a:AL):GN (ME a).1:=by
 unfold ME GN
 split
 · simp only [G6]; omega
 · simp
theorem xY {r:Int} {k:HO} {v:AL} {l:List (HO×AL)} (h:∀ p∈l,MF p.1 k):ins r k v l=l++[(k,v)]:=by
 induction l with
 | nil=>rfl
 | cons p l D=>unfold ins; rw [if_pos (h p (by simp)),D fun q G=>h q (by simp [G])]; rfl
theorem AaZ {r:Int} {T:List A3} (h:Srt T):SC r (T.map dI)=T.map fun t=>(key t,YS t.Val):=by
 suffices ∀ i,i≤T.length→SC r ((T.take i).map dI)=(T.take i).map fun t=>(key t,YS t.Val) by
  have:=this T.length (Nat.le_refl _)
  rwa [List.take_length] at this
 intro i
 induction i with
 | zero=>intro _; rfl
 | succ i G=>
  intro hi
  rw [GO (show i<T.length by omega),GO (show i<T.length by omega),kU,G (by omega),xY]
  · rfl
  · intro p hp
    obtain ⟨t,D,rfl⟩:=List.mem_map.1 hp
    obtain ⟨j,J,rfl⟩:=List.getElem_of_mem D
    simp only [List.length_take] at J
    rw [List.getElem_take]
    exact List.pairwise_iff_getElem.1 h j i (by omega) (by omega) (by omega)
theorem xZ {v:Int} (h:GN v):ME (YS v)=(v,true):=by
 unfold ME YS
 unfold GN at h
 simp only
 rw [if_pos]
 · rw [G6]; congr 1; omega
 · split <;> omega
theorem WP {r rows cols:Int} {T:List A3} (h:Canon rows cols T) (G:∀ t∈T,GN t.Val) (Z:1≤r∧r≤5):wO r rows cols T=(B0 rows cols T,0):=by
 have V:ON (SC r (T.map dI)) qF=(T,0):=by
  rw [AaZ h.srt]
  rw [eW (m:=[]) (.refl _) (fun p hp=>by obtain ⟨t,D,rfl⟩:=List.mem_map.1 hp; rw [xZ (G t D)])]
  congr 1
  rw [List.map_map]
  refine (List.map_congr_left fun t D=>?_).trans (List.map_id T)
  simp only [Function.comp_apply,xZ (G t D)]
  rfl
 have W:=h.r0; have U:=h.r1; have Y:=h.c0; have O:=h.c1; have h5:=h.len
 unfold wO
 rw [if_neg (fun h=>h Z),if_neg (fun h=>h ⟨W,U,Y,O⟩),if_neg (by omega),if_neg (fun J=>J h.inn),V,if_neg (by simp)]
theorem tJ {l h c d:Int} {T:List A3} (t:A3):t∈HI l h c d T↔(⟨t.Row+l,t.Col+c,t.Val⟩:A3)∈T∧(0≤t.Row∧t.Row+l<h)∧0≤t.Col∧t.Col+c<d:=by
 unfold HI
 simp only [List.mem_map,List.mem_filter,decide_eq_true_eq]
 constructor
 · rintro ⟨u,⟨hu,D⟩,rfl⟩
   simp only
   rw [show u.Row - l+l=u.Row by omega,show u.Col - c+c=u.Col by omega]
   exact ⟨hu,by omega,by omega,by omega⟩
 · rintro ⟨G,D⟩
   refine ⟨_,⟨G,?_⟩,?_⟩
   · simp only; omega
   · cases t; simp only [A3.mk.injEq]; exact ⟨by omega,by omega,trivial⟩
def AdN (l:List P6):Prop:=l.Pairwise fun a b=>a.At<b.At
instance (l:List P6):Decidable (AdN l):=by unfold AdN; infer_instance
def dJ (r:Int):Option AL→Option AL→Option AL
 | none,y=>y
 | some a,none=>some a
 | some a,some b=>some (F6 r a b)
theorem KW (r:Int) (a:Option AL):dJ r a none=a:=by cases a <;> rfl
end Go.Proofs.YtbohadngdkjljaaGreat
