import Derived.Test.YtbohadngdkjljaaGreatOK
import Derived.Test.YtbohadngdkjljaaGreatCsrG
namespace Go.Proofs.YtbohadngdkjljaaGreat
open Go Go.Fw
set_option linter.unusedVariables false
set_option linter.unusedSimpArgs false
variable {ts:List A1}
def JZ (ts:List A1) (i:Nat):List A1:=ts.filter fun t=>decide (t.Row=i)
theorem AcR (h:Srt ts) (i:Nat) {lo hi:Nat} (V:E5 ts i=lo) (U:E5 ts (i+1)=hi) (J:lo≤hi) (hl:hi≤ts.length):(ts.take hi).drop lo=JZ ts i:=by
 have e:ts=ts.take lo++((ts.take hi).drop lo++ts.drop hi):=by
   have W:ts.take lo=(ts.take hi).take lo:=by rw [List.take_take,Nat.min_eq_left J]
   rw [←List.append_assoc,W,List.take_append_drop,List.take_append_drop]
 have O:∀ (p:Nat) (hp:p<ts.length),ts[p].Row=i↔lo≤p∧p<hi:=fun p hp=>by have:=h.at (i:=i) hp; omega
 unfold JZ
 conv=>rhs; rw [e]
 rw [List.filter_append,List.filter_append,List.filter_eq_nil_iff.2,List.filter_eq_self.2,List.filter_eq_nil_iff.2]
 · simp
 · intro t D
   obtain ⟨j,G,rfl⟩:=List.getElem_of_mem D
   simp only [List.getElem_drop,decide_eq_true_eq]
   rw [O]; omega
 · intro t D
   obtain ⟨j,G,rfl⟩:=List.getElem_of_mem D
   simp only [List.getElem_drop,List.getElem_take,decide_eq_true_eq]
   simp only [List.length_drop,List.length_take] at G
   rw [O]; omega
 · intro t D
   obtain ⟨j,G,rfl⟩:=List.getElem_of_mem D
   simp only [List.getElem_take,decide_eq_true_eq]
   simp only [List.length_take] at G
   rw [O]; omega
structure Seg (ts:List A1) (i l u:Nat):Prop where
 lo:E5 ts i=l
 hi:E5 ts (i+1)=u
 le:l≤u
 len:u≤ts.length
 eq:(ts.take u).drop l=JZ ts i
 row:∀ (p:Nat) (hp:p<ts.length),l≤p→p<u→ts[p].Row=i
theorem Canon.seg {rows cols:Int} (h:Canon rows cols ts) (i:Nat):∃ lo hi,Seg ts i lo hi:=by
 have hs:=TW i ts fun t J=>(h.inn t J).1
 have ha:=ZP ts (i+1)
 have hb:=VH ts (i+1)
 obtain ⟨lo,D⟩:∃ lo:Nat,E5 ts i=lo:=⟨_,rfl⟩
 obtain ⟨hi,G⟩:∃ hi:Nat,E5 ts (i+1)=hi:=⟨_,rfl⟩
 exact ⟨lo,hi,D,G,by omega,by omega,AcR h.srt i D G (by omega) (by omega),fun p hp h1 h2=>by have:=h.srt.at (i:=i) hp; omega⟩
theorem Canon.sml {rows cols:Int} (h:Canon rows cols ts):II (B0 rows cols ts):=by
 have:=h.r0; have:=h.r1; have:=h.len
 unfold II B0; simp; omega
theorem FU {rows cols:Int} {i:Nat} {K:Int→Prop} (h:(i:Int)≤rows) (hk:K (E5 ts i)):AN (B0 rows cols ts).Start (i:Int) K:=
 AA (by omega) (NN (by simp; omega)) hk
theorem tG {rows cols:Int} {i:Nat} {Q:List Int×List Int→Prop} (h:Canon rows cols ts) (hi:(i:Int)<rows) (J:Q ((JZ ts i).map (·.Col),(JZ ts i).map (·.Val))):V8 (B0 rows cols ts) i Q:=by
 unfold V8
 have hr:=h.r1
 obtain ⟨lo,D,s⟩:=h.seg i
 have G:A7 ((i:Int)+1)=(i+1:Nat):=by rw [AH (by omega) (by omega)]; omega
 rw [G]
 refine FU (by omega) (FU (by omega) ?_)
 rw [s.lo,s.hi]
 have h1:=s.le; have h2:=s.len
 have hc:(B0 rows cols ts).Col.length=ts.length:=by simp [B0]
 have hv:(B0 rows cols ts).Val.length=ts.length:=by simp [B0]
 refine ⟨by omega,by omega,by omega,by omega,by omega,by omega,?_⟩
 simp only [Int.toNat_natCast,B0,←List.map_take,←List.map_drop,s.eq]
 exact J
def PV (t:A1):CO:=⟨t.Col,t.Val⟩
def VK (rows:Int) (ts:List A1) (i:Int):List CO:=if 0≤i∧i<rows then (JZ ts i.toNat).map PV else []
theorem NO (ts:List A1) (i:Nat):(JZ ts i).length≤ts.length:=List.length_filter_le _ _
theorem qZ {a:Rows} {rows cols i:Int} {Q:List CO→Prop} (W:II a) (Z:S0 a=B0 rows cols ts) (h:Canon rows cols ts) (D:Q (VK rows ts i)):eL a i Q:=by
 unfold eL
 have hr0:=h.r0; have V:=h.r1; have U:=h.len
 refine lE W ?_
 rw [Z]
 have e:A7 ((B0 rows cols ts).Rows - 1)=rows - 1:=AH (by show -9223372036854775808≤rows - 1; omega) (by show rows - 1≤9223372036854775807; omega)
 rw [e]
 unfold VK at D
 refine IM (BN (fun G=>?_) (fun O=>?_))
 · have G:¬(0≤i∧i≤rows - 1):=by simpa using G
   rw [if_neg (by omega)] at D; exact D
 have O:0≤i∧i≤rows - 1:=by simpa using O
 rw [if_pos (by omega)] at D
 obtain ⟨n,rfl⟩:∃ n:Nat,i=n:=⟨i.toNat,by omega⟩
 rw [Int.toNat_natCast] at D
 refine tG h (by omega) ?_
 have Y:=NO ts n
 generalize JZ ts n=xs at D Y
 refine B3 (fun (s:List CO) i=>(s,i)) 0 xs.length (by omega) (fun i s=>s=(xs.take i).map PV) (by omega) rfl (fun i s next _ hi J G=>?_) (fun s next J=>?_)
 · subst J
   dsimp only
   refine A0 (fun _=>?_) (fun h=>by simp at h; omega)
   refine AA (by omega) (x:=xs[i].Col) (by simp [hi]) (AA (by omega) (x:=xs[i].Val) (by simp [hi]) (AQ ?_ (G _ ?_)))
   · simp; omega
   · rw [GN hi]; rfl
 · subst J
   dsimp only
   refine A0 (fun h=>by simp at h) (fun _=>?_)
   rw [List.take_length]; exact D
theorem oF {lo p:Nat} (h1:lo≤p) (h:p<ts.length):(ts.take (p+1)).drop lo=(ts.take p).drop lo++[ts[p]]:=by
 rw [List.take_succ_eq_append_getElem h,List.drop_append_of_le_length (by simp; omega)]
theorem rA {a:Rows} {rows cols i:Int} {Q:List CO→Prop} (hl:II a) (ha:S0 a=B0 rows cols ts) (h:Canon rows cols ts) (D:Q (VK rows ts i)):WV a i Q:=by
 unfold WV
 have Z:=h.r0; have hr1:=h.r1; have Y:=h.len
 refine M1 hl ?_
 rw [ha]
 unfold VK at D
 refine A0 (fun O=>?_) (fun h1=>A0 (fun (O:rows≤i)=>?_) (fun (h2:¬rows≤i)=>?_))
 · rw [if_neg (by omega)] at D; exact D
 · rw [if_neg (by omega)] at D; exact D
 rw [if_pos (by omega)] at D
 obtain ⟨n,rfl⟩:∃ n:Nat,i=n:=⟨i.toNat,by omega⟩
 rw [Int.toNat_natCast] at D
 obtain ⟨lo,J,s⟩:=h.seg n
 have e1:A7 ((n:Int)+1)=(n+1:Nat):=by rw [AH (by omega) (by omega)]; omega
 rw [e1]
 refine FU (by omega) ?_
 rw [s.lo]
 have g1:=s.le; have g2:=s.len
 refine B3 (fun (s:List CO) i=>(s,i)) lo J (by omega) (fun p V=>V=((ts.take p).drop lo).map PV) (by omega) (s0:=[]) (by simp) (fun p V next U hp2 W O=>?_) (fun V next W=>?_)
 · subst W
   dsimp only
   refine FU (by omega) ?_
   rw [s.hi]
   have G:p<ts.length:=by omega
   refine A0 (fun _=>?_) (fun h=>by omega)
   refine AA (by omega) (x:=ts[p].Col) (by simp [B0,G]) (AA (by omega) (x:=ts[p].Val) (by simp [B0,G]) (AQ ?_ (O _ ?_)))
   · simp; omega
   · rw [oF U G,List.map_append]; rfl
 · subst W
   dsimp only
   refine FU (by omega) ?_
   rw [s.hi]
   refine A0 (fun h=>by omega) (fun _=>?_)
   rw [s.eq]; exact D
theorem VL {a:Rows} {rows cols:Int} {Q:List A1→Prop} (hl:II a) (ha:S0 a=B0 rows cols ts) (h:Canon rows cols ts) (hQ:Q ts):LW a Q:=by
 unfold LW
 have hr0:=h.r0; have hr1:=h.r1; have hlen:=h.len
 refine lE hl ?_
 rw [ha]
 obtain ⟨n,hn⟩:∃ n:Nat,rows=n:=⟨rows.toNat,by omega⟩
 have W:(B0 rows cols ts).Rows=n:=hn
 rw [W]
 refine B3 (fun (s:List A1) i=>(s,i)) 0 n (by omega) (fun i s=>s=ts.take (E5 ts i).toNat) (by omega) (s0:=[]) (by rw [TY fun t ht=>(h.inn t ht).1]; rfl) (fun i s next _ hi D V=>?_) (fun s next D=>?_)
 · subst D
   dsimp only
   refine A0 (fun _=>?_) (fun h=>by omega)
   refine tG h (by omega) ?_
   obtain ⟨lo,U,s⟩:=h.seg i
   have g1:=s.le; have g2:=s.len
   rw [s.lo,Int.toNat_natCast]
   have hsl:(JZ ts i).length=U - lo:=by rw [←s.eq]; simp; omega
   have G:∀ (j:Nat) (O:j<(JZ ts i).length),(JZ ts i)[j]=ts[lo+j]'(by omega):=fun j O=>by simp [←s.eq]
   refine B3 (fun (s:List A1) i=>(s,i)) 0 (JZ ts i).length (by omega) (fun j Z=>Z=ts.take (lo+j)) (by omega) (by simp) (fun j Z nx _ O D Y=>?_) (fun Z nx D=>?_)
   · subst D
     dsimp only
     refine A0 (fun _=>?_) (fun h=>by simp at h; omega)
     have J:lo+j<ts.length:=by omega
     refine AA (by omega) (x:=ts[lo+j].Col) (by simp [O,G]) (AA (by omega) (x:=ts[lo+j].Val) (by simp [O,G]) (AQ ?_ (Y _ ?_)))
     · simp; omega
     · rw [show lo+(j+1)=lo+j+1 by omega,List.take_succ_eq_append_getElem J]
       congr 2
       have:=s.row (lo+j) J (by omega) (by omega)
       rw [←this]
   · subst D
     dsimp only
     refine A0 (fun h=>by simp at h) (fun _=>V _ ?_)
     rw [s.hi,hsl,Int.toNat_natCast]; congr 1; omega
 · subst D
   dsimp only
   refine A0 (fun h=>by omega) (fun _=>?_)
   have hb:=WZ h
   rw [hn,Int.toNat_natCast] at hb
   rw [hb,Int.toNat_natCast,List.take_length]; exact hQ
theorem MN {a:Rows} {rows cols:Int} {Q:List A1→Prop} (hl:II a) (ha:S0 a=B0 rows cols ts) (h:Canon rows cols ts) (hQ:Q ts):GW a Q:=by
 unfold GW
 have hr0:=h.r0; have hr1:=h.r1; have hlen:=h.len
 refine M1 hl ?_
 rw [ha]
 obtain ⟨n,Y⟩:∃ n:Nat,rows=n:=⟨rows.toNat,by omega⟩
 have U:(B0 rows cols ts).Rows=n:=Y
 rw [U]
 refine B3 (fun (s:List A1) i=>(s,i)) 0 n (by omega) (fun i s=>s=ts.take (E5 ts i).toNat) (by omega) (s0:=[]) (by rw [TY fun t ht=>(h.inn t ht).1]; rfl) (fun i s next _ hi G J=>?_) (fun s next G=>?_)
 · subst G
   dsimp only
   refine A0 (fun _=>?_) (fun h=>by omega)
   obtain ⟨lo,O,s⟩:=h.seg i
   have g1:=s.le; have g2:=s.len
   have e1:A7 ((i:Int)+1)=(i+1:Nat):=by rw [AH (by omega) (by omega)]; omega
   rw [e1] at J ⊢
   refine FU (by omega) ?_
   rw [s.lo,Int.toNat_natCast]
   refine B3 (fun (s:List A1) i=>(s,i)) lo O (by omega) (fun p W=>W=ts.take p) (by omega) rfl (fun p W nx hp1 hp2 G V=>?_) (fun W nx G=>?_)
   · subst G
     dsimp only
     refine FU (by omega) ?_
     rw [s.hi]
     have D:p<ts.length:=by omega
     refine A0 (fun _=>?_) (fun h=>by omega)
     refine AA (by omega) (x:=ts[p].Col) (by simp [B0,D]) (AA (by omega) (x:=ts[p].Val) (by simp [B0,D]) (AQ ?_ (V _ ?_)))
     · simp; omega
     · rw [List.take_succ_eq_append_getElem D]
       congr 2
       have:=s.row p D (by omega) (by omega)
       rw [←this]
   · subst G
     dsimp only
     refine FU (by omega) ?_
     rw [s.hi]
     refine A0 (fun h=>by omega) (fun _=>J _ ?_)
     rw [s.hi,Int.toNat_natCast]
 · subst G
   dsimp only
   refine A0 (fun h=>by omega) (fun _=>?_)
   have Z:=WZ h
   rw [Y,Int.toNat_natCast] at Z
   rw [Z,Int.toNat_natCast,List.take_length]; exact hQ
def oG (ts:List A1) (i j:Int):Int×Bool:=match ts.find? (fun t=>decide (key t=(i,j))) with
 | some t=>(t.Val,true)
 | none=>(0,false)
theorem AaP (h:Srt ts) {t:A1} (G:t∈ts) {i j:Int} (hk:key t=(i,j)):oG ts i j=(t.Val,true):=by
 unfold oG
 cases hf:ts.find? (fun t=>decide (key t=(i,j))) with
 | none=>
  have:=List.find?_eq_none.1 hf t G
  simp [hk] at this
 | some u=>
  have U:=List.mem_of_find?_eq_some hf
  have D:=List.find?_some hf
  simp only [decide_eq_true_eq] at D
  obtain ⟨p,hp,rfl⟩:=List.getElem_of_mem G
  obtain ⟨q,J,rfl⟩:=List.getElem_of_mem U
  have O:=List.pairwise_iff_getElem.1 h
  rcases Nat.lt_trichotomy p q with e | e | e
  · have:=O p q hp J e; rw [hk,D] at this; exact absurd this (EE _)
  · subst e; rfl
  · have:=O q p J hp e; rw [hk,D] at this; exact absurd this (EE _)
theorem xR {i j:Int} (h:∀ t∈ts,key t≠(i,j)):oG ts i j=(0,false):=by
 unfold oG
 rw [List.find?_eq_none.2 (by simpa using h)]
theorem fJ {a:Rows} {rows cols i j:Int} {Q:Int×Bool→Prop} (hl:II a) (ha:S0 a=B0 rows cols ts) (h:Canon rows cols ts) (W:Q (oG ts i j)):T1 a i j Q:=by
 unfold T1
 have hr0:=h.r0; have hr1:=h.r1; have hlen:=h.len
 refine rA hl ha h ?_
 have hlr:(VK rows ts i).length≤ts.length:=by
   unfold VK; split
   · have:=NO ts i.toNat; simpa using this
   · simp
 refine DF (VK rows ts i).length (by omega) (fun q=>∀ (p:Nat) (hp:p<(VK rows ts i).length),p<q→(VK rows ts i)[p].At≠j) (by simp) (fun q next G Z hn=>?_) (fun next Z=>?_)
 · refine A0 (fun _=>?_) (fun h=>by omega)
   refine AJ G (BB (fun e=>AJ G ?_) (fun e=>hn fun p hp hpq=>?_))
   · have D:(VK rows ts i)[q]∈VK rows ts i:=List.getElem_mem G
     generalize (VK rows ts i)[q]=x at e D
     unfold VK at D
     split at D
     · rename_i O
       obtain ⟨t,Y,rfl⟩:=List.mem_map.1 D
       have U:=List.mem_filter.1 Y
       have V:t.Row=i:=by have:=U.2; simp only [decide_eq_true_eq] at this; omega
       have J:t.Col=j:=e
       rw [AaP h.srt U.1 (by unfold key; rw [V,J])] at W
       exact W
     · simp at D
   · by_cases e':p=q
     · subst e'; exact e
     · exact Z p hp (by omega)
 · refine A0 (fun h=>by omega) (fun _=>?_)
   rw [xR fun t Y hk=>?_] at W
   · exact W
   · have O:=h.inn t Y
     unfold RK at O
     unfold key at hk
     simp only [Prod.mk.injEq] at hk
     have D:PV t∈VK rows ts i:=by
       unfold VK
       rw [if_pos (by omega)]
       exact List.mem_map_of_mem (List.mem_filter.2 ⟨Y,by simp; omega⟩)
     obtain ⟨q,G,e⟩:=List.getElem_of_mem D
     exact Z q G G (by rw [e]; exact hk.2)
theorem Srt.nodup {l:List A1} (h:Srt l):l.Nodup:=by
 rw [List.nodup_iff_pairwise_ne]
 exact List.Pairwise.imp (R:=fun a b=>MA (key a) (key b)) (fun {a b} D (e:a=b)=>EE (key b) (by rw [e] at D; exact D)) h
theorem AaQ {l D:List A1} (h:Srt l) (G:Srt D) (he:∀ t,t∈l↔t∈D):l=D:=
 bQ ((List.perm_ext_iff_of_nodup h.nodup G.nodup).2 he) h G fun a b _ _ O J=>absurd (IL O J) (EE _)
theorem D4 {rows cols:Int} (h:Canon rows cols ts):S0 (B0 rows cols ts)=B0 rows cols ts:=by
 unfold S0; rw [if_pos h.right]
def UP (l:Int):Int:=if 0 > l then 0 else l
def X9 (h n:Int):Int:=if n<h then n else h
def ext (l h n:Int):Int:=if UP l<X9 h n then X9 h n - UP l else 0
def HI (l h c d:Int) (ts:List A1):List A1:=(ts.filter fun t=>decide ((l≤t.Row∧t.Row<h)∧(c≤t.Col∧t.Col<d))).map fun t=>⟨t.Row - l,t.Col - c,t.Val⟩
def bS (rows cols:Int) (ts:List A1) (p q:Int×Int):Rows:=B0 (ext p.1 p.2 rows) (ext q.1 q.2 cols) (HI (UP p.1) (X9 p.2 rows) (UP q.1) (X9 q.2 cols) ts)
theorem YI (l h n:Int) (hn:0≤n) (h1:n≤4096):0≤ext l h n∧ext l h n≤n∧0≤UP l∧X9 h n≤n:=by
 unfold ext UP X9; (repeat' split) <;> omega
theorem bT {rows cols:Int} (h:Canon rows cols ts) (p q:Int×Int):Canon (ext p.1 p.2 rows) (ext q.1 q.2 cols) (HI (UP p.1) (X9 p.2 rows) (UP q.1) (X9 q.2 cols) ts):=by
 have h1:=YI p.1 p.2 rows h.r0 h.r1
 have h2:=YI q.1 q.2 cols h.c0 h.c1
 have h3:=h.r1; have h4:=h.c1
 refine ⟨by omega,by omega,by omega,by omega,?_,?_,?_⟩
 · have:=h.len
   unfold HI
   rw [List.length_map]
   exact Nat.le_trans (List.length_filter_le _ _) this
 · unfold Srt HI
   rw [List.pairwise_map]
   refine List.Pairwise.imp (fun {a b} O=>?_) (List.Pairwise.filter (R:=fun a b=>MA (key a) (key b)) _ h.srt)
   unfold MA key at *
   simp only at *
   omega
 · intro t D
   obtain ⟨u,J,rfl⟩:=List.mem_map.1 D
   have G:=(List.mem_filter.1 J).2
   simp only [decide_eq_true_eq] at G
   have e1:ext p.1 p.2 rows=X9 p.2 rows - UP p.1:=by unfold ext; rw [if_pos (by omega)]
   have e2:ext q.1 q.2 cols=X9 q.2 cols - UP q.1:=by unfold ext; rw [if_pos (by omega)]
   unfold RK
   simp only
   omega
theorem jA {p:Int×Int} {n:Int} {Q:Int×Int→Prop} (G:0≤n) (J:n≤4096) (D:Q (UP p.1,ext p.1 p.2 n)):Q9 p n Q:=by
 unfold Q9
 show AD (decide (X9 p.2 n≤UP p.1)) (Q (UP p.1,0)) (Q (UP p.1,A7 (X9 p.2 n - UP p.1)))
 have hb:=YI p.1 p.2 n G J
 unfold ext at D
 refine A0 (fun h=>?_) (fun h=>?_)
 · rwa [if_neg (by omega)] at D
 · rw [if_pos (by omega)] at D
   rwa [AH (by omega) (by omega)]
theorem YJ {a:Rows} {rows cols:Int} {p q:Int×Int} {Q:Rows→Prop} (hl:II a) (ha:S0 a=B0 rows cols ts) (h:Canon rows cols ts) (hQ:Q (bS rows cols ts p q)):M0 a p q Q:=by
 unfold M0
 have hlen:=h.len
 refine M1 hl ?_
 rw [ha]
 refine MN h.sml (D4 h) h ?_
 have hrl:(B0 rows cols ts).Rows=rows:=rfl
 have U:(B0 rows cols ts).Cols=cols:=rfl
 rw [U,hrl]
 have b1:=YI p.1 p.2 rows h.r0 h.r1
 have b2:=YI q.1 q.2 cols h.c0 h.c1
 have hr1:=h.r1; have hc1:=h.c1
 have D:=bT h p q
 have hbuilt (xs:List A1) (W:HI (UP p.1) (X9 p.2 rows) (UP q.1) (X9 q.2 cols) ts=xs):HR (ext p.1 p.2 rows) (ext q.1 q.2 cols) xs Q:=by
   subst W
   refine ZQ (by omega) (by omega) (by have:=D.len; omega) (fun t O=>?_) hQ
   have:=D.inn t O
   unfold RK at this
   exact ⟨this.1,this.2.1⟩
 have hf:∀ x:Int,(if 0 > x then 0 else x)=UP x:=fun _=>rfl
 have hg:∀ x n:Int,(if n<x then n else x)=X9 x n:=fun _ _=>rfl
 simp only [hf,hg]
 refine B3 (fun (s:List A1) i=>(s,i)) 0 ts.length (by omega) (fun i s=>s=HI (UP p.1) (X9 p.2 rows) (UP q.1) (X9 q.2 cols) (ts.take i)) (by omega) (s0:=[]) rfl (fun i s next _ hi hm hn=>?_) (fun s next hm=>?_)
 · subst hm
   dsimp only
   refine A0 (fun _=>?_) (fun h=>by omega)
   have Z:=h.inn _ (List.getElem_mem hi)
   unfold RK at Z
   have J:HI (UP p.1) (X9 p.2 rows) (UP q.1) (X9 q.2 cols) (ts.take (i+1))=HI (UP p.1) (X9 p.2 rows) (UP q.1) (X9 q.2 cols) (ts.take i)++if (UP p.1≤ts[i].Row∧ts[i].Row<X9 p.2 rows)∧(UP q.1≤ts[i].Col∧ts[i].Col<X9 q.2 cols) then [⟨ts[i].Row - UP p.1,ts[i].Col - UP q.1,ts[i].Val⟩] else []:=by
     unfold HI
     rw [List.take_succ_eq_append_getElem hi,List.filter_append,List.filter_cons,List.filter_nil,List.map_append]
     simp only [decide_eq_true_eq]
     congr 1
     split <;> rfl
   refine CA (fun b=>b=decide ((UP p.1≤ts[i].Row∧ts[i].Row<X9 p.2 rows)∧(UP q.1≤ts[i].Col∧ts[i].Col<X9 q.2 cols))) ?_ fun k hk=>?_
   · rintro _ rfl
     refine A0 (fun V=>AJ hi (AJ hi (AJ hi (AQ ?_ (hn _ ?_))))) (fun V=>hn _ ?_)
     · have Y:(HI (UP p.1) (X9 p.2 rows) (UP q.1) (X9 q.2 cols) (ts.take i)).length≤ts.length:=by
         unfold HI
         rw [List.length_map]
         exact Nat.le_trans (List.length_filter_le _ _) (by simp; omega)
       simp only [List.length_singleton]; omega
     · rw [J,if_pos V,AH (by omega) (by omega),AH (by omega) (by omega)]
     · rw [J,if_neg V,List.append_nil]
   · refine AJ hi (A0 (fun h1=>AJ hi (A0 (fun Y=>AJ hi (A0 (fun h3=>AJ hi (hk _ ?_)) (fun h3=>hk _ ?_))) (fun Y=>hk _ ?_))) (fun h1=>hk _ ?_))
     · apply decide_eq_decide.2; simp [h1,Y,h3]
     all_goals (symm; apply decide_eq_false; intro G; omega)
 · subst hm
   dsimp only
   rw [List.take_length]
   refine A0 (fun h=>by omega) (fun _=>?_)
   refine CA (fun x=>x=ext p.1 p.2 rows) ?_ fun k hk=>?_
   · rintro _ rfl
     refine CA (fun x=>x=ext q.1 q.2 cols) ?_ fun k hk=>?_
     · rintro _ rfl
       refine BB (fun e=>hbuilt _ ?_) (fun e1=>BB (fun e=>hbuilt _ ?_) (fun e2=>hbuilt _ rfl))
       · apply List.eq_nil_iff_forall_not_mem.2
         intro t O
         have:=D.inn t O
         unfold RK at this; omega
       · apply List.eq_nil_iff_forall_not_mem.2
         intro t O
         have:=D.inn t O
         unfold RK at this; omega
     · refine A0 (fun G=>hk _ ?_) (fun G=>hk _ ?_)
       · unfold ext at b2 ⊢; rw [if_pos G] at b2 ⊢; exact AH (by omega) (by omega)
       · unfold ext; rw [if_neg G]
   · refine A0 (fun G=>hk _ ?_) (fun G=>hk _ ?_)
     · unfold ext at b1 ⊢; rw [if_pos G] at b1 ⊢; exact AH (by omega) (by omega)
     · unfold ext; rw [if_neg G]
def fK (c d:Int) (t:A1):Bool:=decide (c≤t.Col∧t.Col<d)
def shf (l c:Int) (t:A1):A1:=⟨t.Row - l,t.Col - c,t.Val⟩
theorem xS (h:Srt ts) (l c d:Int) (v:Nat) (hv:l≤v):HI l ((v:Int)+1) c d ts=HI l v c d ts++((JZ ts v).filter (fK c d)).map (shf l c):=by
 unfold HI
 rw [show (fun t:A1=>(⟨t.Row - l,t.Col - c,t.Val⟩:A1))=shf l c from rfl,←List.map_append]
 congr 1
 refine AaQ (List.Pairwise.filter _ h) (List.pairwise_append.2 ⟨List.Pairwise.filter _ h,List.Pairwise.filter _ (List.Pairwise.filter _ h),fun a O b J=>?_⟩) fun t=>?_
 · have D:=(List.mem_filter.1 O).2
   have G:=(List.mem_filter.1 (List.mem_filter.1 J).1).2
   simp only [decide_eq_true_eq] at D G
   unfold MA key
   simp only
   omega
 · unfold JZ fK
   simp only [List.mem_append,List.mem_filter,decide_eq_true_eq]
   constructor
   · rintro ⟨D,G⟩
     by_cases e:t.Row=v
     · exact .inr ⟨⟨D,e⟩,G.2⟩
     · exact .inl ⟨D,by omega,G.2⟩
   · rintro (⟨D,G⟩ | ⟨⟨D,G⟩,h3⟩)
     · exact ⟨D,by omega,G.2⟩
     · exact ⟨D,by omega,h3⟩
theorem lF {l h c d:Int} (hh:h≤l):HI l h c d ts=[]:=by
 unfold HI
 rw [List.filter_eq_nil_iff.2]; · rfl
 intro t ht
 simp only [decide_eq_true_eq]; omega
theorem TZ {a:Rows} {rows cols:Int} {p q:Int×Int} {Q:Rows→Prop} (hl:II a) (ha:S0 a=B0 rows cols ts) (h:Canon rows cols ts) (hQ:Q (bS rows cols ts p q)):LC a p q Q:=by
 unfold LC
 have hlen:=h.len
 have hr1:=h.r1; have hc1:=h.c1
 have b1:=YI p.1 p.2 rows h.r0 h.r1
 have b2:=YI q.1 q.2 cols h.c0 h.c1
 refine lE hl ?_
 rw [ha]
 refine jA h.r0 h.r1 (jA h.c0 h.c1 ?_)
 show B2 _ _
 have G:=bT h p q
 unfold bS at hQ
 have hrl:(B0 rows cols ts).Rows=rows:=rfl
 have hcl:(B0 rows cols ts).Cols=cols:=rfl
 rw [hcl,hrl]
 generalize hL:UP p.1=L at *
 generalize hH:X9 p.2 rows=H at *
 generalize hC:UP q.1=C at *
 generalize hD:X9 q.2 cols=D at *
 have eE:ext p.1 p.2 rows=if L<H then H - L else 0:=by unfold ext; rw [hL,hH]
 have eF:ext q.1 q.2 cols=if C<D then D - C else 0:=by unfold ext; rw [hC,hD]
 generalize ext p.1 p.2 rows=E at *
 generalize ext q.1 q.2 cols=F at *
 dsimp only
 obtain ⟨n,hn⟩:∃ n:Nat,E=n:=⟨E.toNat,by omega⟩
 rw [hn]
 refine B3 (fun (s:List A1) i=>(s,i)) 0 n (by omega) (fun i s=>s=HI L (L+(i:Nat)) C D ts) (by omega) (s0:=[]) (by rw [lF (by omega)]) (fun i s next _ hi J U=>?_) (fun s next J=>?_)
 · subst J
   dsimp only
   have hLH:L<H∧E=H - L:=by
     by_cases e:L<H
     · rw [if_pos e] at eE; exact ⟨e,eE⟩
     · rw [if_neg e] at eE; omega
   obtain ⟨v,hv⟩:∃ v:Nat,L+(i:Int)=v:=⟨(L+i).toNat,by omega⟩
   have e1:A7 (L+(i:Int))=v:=by rw [AH (by omega) (by omega)]; exact hv
   rw [e1]
   refine A0 (fun _=>?_) (fun h=>by omega)
   refine qZ h.sml (D4 h) h ?_
   have erow:VK rows ts v=(JZ ts v).map PV:=by unfold VK; rw [if_pos (by omega),Int.toNat_natCast]
   rw [erow]
   have hsl:=NO ts v
   have hrow:∀ t∈JZ ts v,t.Row=v:=fun t ht=>by simpa using (List.mem_filter.1 ht).2
   have hin:∀ t∈JZ ts v,RK rows cols t:=fun t ht=>h.inn t (List.mem_filter.1 ht).1
   have O:=xS h.srt L C D v (by omega)
   rw [show (v:Int)+1=L+((i+1:Nat):Int) by omega] at O
   rw [O] at U
   have hacc:(HI L v C D ts).length≤ts.length:=by
     unfold HI
     rw [List.length_map]
     exact List.length_filter_le _ _
   rw [hv]
   generalize HI L v C D ts=acc at U hacc
   generalize JZ ts v=xs at *
   refine B3 (fun (s:List A1) i=>(s,i)) 0 xs.length (by omega) (fun j s=>s=acc++((xs.take j).filter (fK C D)).map (shf L C)) (by omega) (by simp) (fun j s nx _ hj J Z=>?_) (fun s nx J=>?_)
   · subst J
     dsimp only
     refine A0 (fun _=>?_) (fun h=>by simp at h; omega)
     have J:=List.getElem_mem hj
     have hi1:=hin _ J
     have hr:=hrow _ J
     unfold RK at hi1
     have W:(xs.take (j+1)).filter (fK C D)=(xs.take j).filter (fK C D)++if fK C D xs[j]=true then [xs[j]] else []:=by
       rw [List.take_succ_eq_append_getElem hj,List.filter_append,List.filter_cons,List.filter_nil]
     refine AA (by omega) (x:=PV xs[j]) (by simp [hj]) ?_
     have eAt:(PV xs[j]).At=xs[j].Col:=rfl
     have Y:(PV xs[j]).Val=xs[j].Val:=rfl
     rw [eAt,Y]
     refine CA (fun b=>b=fK C D xs[j]) ?_ fun k hk=>?_
     · rintro _ rfl
       refine ⟨fun V=>AQ ?_ (Z _ ?_),fun V=>Z _ ?_⟩
       · have:=List.length_filter_le (fK C D) (xs.take j)
         have h4:(xs.take j).length≤xs.length:=by simp; omega
         simp only [List.length_append,List.length_map,List.length_singleton]
         omega
       · have hc':C≤xs[j].Col∧xs[j].Col<D:=by simpa [fK] using V
         rw [W,if_pos V,List.map_append,List.append_assoc,AH (x:=xs[j].Col - C) (by omega) (by omega)]
         have:(⟨(i:Int),xs[j].Col - C,xs[j].Val⟩:A1)=shf L C xs[j]:=by unfold shf; rw [show (i:Int)=xs[j].Row - L by omega]
         rw [this]; rfl
       · rw [W,if_neg (by simp [V]),List.append_nil]
     · refine A0 (fun V=>hk _ ?_) (fun V=>hk _ ?_)
       · unfold fK
         apply decide_eq_decide.2
         rw [eF,AH (x:=xs[j].Col - C) (by omega) (by omega)]
         split <;> omega
       · unfold fK; symm; apply decide_eq_false; omega
   · subst J
     dsimp only
     refine A0 (fun h=>by simp at h) (fun _=>U _ ?_)
     rw [List.take_length]
 · subst J
   dsimp only
   refine A0 (fun h=>by omega) (fun _=>?_)
   have e:HI L (L+(n:Int)) C D ts=HI L H C D ts:=by
     by_cases e:L<H
     · rw [if_pos e] at eE; rw [show L+(n:Int)=H by omega]
     · rw [if_neg e] at eE; rw [lF (by omega),lF (by omega)]
   rw [e]
   rw [hn] at G hQ
   refine oB (by omega) (by omega) (by have:=G.len; omega) (fun t ht=>?_) hQ
   have:=G.inn t ht
   unfold RK at this
   exact ⟨this.1,this.2.1⟩
theorem uW {r rows cols:Int} {kvs:List (HN×Int)} (h:0≤rows∧rows≤4096∧0≤cols∧cols≤4096) (hl:kvs.length≤65536) (hk:∀ t∈kvs,RK rows cols (qF t.1 0)) (G:∀ t∈kvs,GM t.2):Canon rows cols (OM (SC r kvs) qF).1:=by
 refine ⟨h.1,h.2.1,h.2.2.1,h.2.2.2,?_,?_,?_⟩
 · exact Nat.le_trans (lD _) (by have:=(TV r kvs G).1; omega)
 · unfold OM
   split
   · unfold Srt
     rw [List.pairwise_map]
     exact lA r kvs
   · exact .nil
 · intro t D
   unfold OM at D
   split at D
   · obtain ⟨p,hp,rfl⟩:=List.mem_map.1 D
     obtain ⟨x,J,e⟩:=tC hp
     have:=hk x J
     unfold RK qF at *
     rw [←e]
     exact this
   · simp at D
theorem AaR {x:Int} (h:SQ .i64 x):GM x:=by have:=bounds_i64 h; unfold GM; omega
theorem AcS {Q:List A1→Prop} (G:∀ ys:List A1,ys.length≤60→(∀ t∈ys,t∈ts)→Q ys):WW ts Q:=by
 unfold WW
 refine A0 (fun h=>⟨by decide,by decide,by omega,G _ ?_ fun t D=>?_⟩) (fun h=>G _ (by omega) fun t D=>D)
 · simp; omega
 · exact List.mem_of_mem_take (List.mem_of_mem_drop D)
theorem oH:II zR:=⟨by decide,by decide,by decide⟩
theorem xT:¬G4 zR:=fun h=>by have:=h.sl; simp [zR] at this
theorem oI {r rows cols:Int} (Y:∀ t∈ts,GM t.Val):((wL r rows cols ts).1=zR∧(wL r rows cols ts).2≠0)∨∃ T,Canon rows cols T∧wL r rows cols ts=(B0 rows cols T,0)∧(1≤r∧r≤5)∧(∀ t∈ts,RK rows cols t)∧ts.length≤65536∧(0≤rows∧rows≤4096∧0≤cols∧cols≤4096)∧T=(OM (SC r (ts.map dT)) qF).1∧(OM (SC r (ts.map dT)) qF).2=0:=by
 unfold wL
 split
 · left; exact ⟨rfl,by simp⟩
 split
 · left; exact ⟨rfl,by simp⟩
 split
 · left; exact ⟨rfl,by simp⟩
 split
 · left; exact ⟨rfl,by simp⟩
 split
 · rename_i h; left; exact ⟨rfl,h⟩
 · rename_i W G V D U
   right
   have G:=Decidable.of_not_not G
   have D:=Decidable.of_not_not D
   refine ⟨_,uW G (by simpa using V) (fun t J=>?_) (fun t J=>?_),rfl,Decidable.of_not_not W,D,by omega,G,rfl,Decidable.of_not_not U⟩
   · obtain ⟨x,O,rfl⟩:=List.mem_map.1 J
     exact D x O
   · obtain ⟨x,O,rfl⟩:=List.mem_map.1 J
     exact Y x O
theorem xU {r rows cols:Int} (D:∀ t∈ts,GM t.Val):II (wL r rows cols ts).1:=by
 rcases oI (r:=r) (rows:=rows) (cols:=cols) D with ⟨h,_⟩ | ⟨T,G,h,_⟩
 · rw [h]; exact oH
 · rw [h]; exact G.sml
def T0:List A1:=[⟨0,1,3⟩,⟨1,2,7⟩]
theorem AaS (a:AL):GM (M9 a).1:=by
 unfold M9 GM
 split
 · simp only [G3]; omega
 · simp
theorem xV {r:Int} {k:HN} {v:AL} {l:List (HN×AL)} (h:∀ p∈l,MA p.1 k):ins r k v l=l++[(k,v)]:=by
 induction l with
 | nil=>rfl
 | cons p l D=>unfold ins; rw [if_pos (h p (by simp)),D fun q G=>h q (by simp [G])]; rfl
theorem AaT {r:Int} {T:List A1} (h:Srt T):SC r (T.map dT)=T.map fun t=>(key t,Z2 t.Val):=by
 suffices ∀ i,i≤T.length→SC r ((T.take i).map dT)=(T.take i).map fun t=>(key t,Z2 t.Val) by
  have:=this T.length (Nat.le_refl _)
  rwa [List.take_length] at this
 intro i
 induction i with
 | zero=>intro _; rfl
 | succ i G=>
  intro hi
  rw [GN (show i<T.length by omega),GN (show i<T.length by omega),kY,G (by omega),xV]
  · rfl
  · intro p hp
    obtain ⟨t,D,rfl⟩:=List.mem_map.1 hp
    obtain ⟨j,J,rfl⟩:=List.getElem_of_mem D
    simp only [List.length_take] at J
    rw [List.getElem_take]
    exact List.pairwise_iff_getElem.1 h j i (by omega) (by omega) (by omega)
theorem xW {v:Int} (h:GM v):M9 (Z2 v)=(v,true):=by
 unfold M9 Z2
 unfold GM at h
 simp only
 rw [if_pos]
 · rw [G3]; congr 1; omega
 · split <;> omega
theorem X0 {r rows cols:Int} {T:List A1} (h:Canon rows cols T) (G:∀ t∈T,GM t.Val) (Y:1≤r∧r≤5):wL r rows cols T=(B0 rows cols T,0):=by
 have W:OM (SC r (T.map dT)) qF=(T,0):=by
  rw [AaT h.srt]
  rw [fG (m:=[]) (.refl _) (fun p hp=>by obtain ⟨t,D,rfl⟩:=List.mem_map.1 hp; rw [xW (G t D)])]
  congr 1
  rw [List.map_map]
  refine (List.map_congr_left fun t D=>?_).trans (List.map_id T)
  simp only [Function.comp_apply,xW (G t D)]
  rfl
 have U:=h.r0; have V:=h.r1; have Z:=h.c0; have J:=h.c1; have h5:=h.len
 unfold wL
 rw [if_neg (fun h=>h Y),if_neg (fun h=>h ⟨U,V,Z,J⟩),if_neg (by omega),if_neg (fun O=>O h.inn),W,if_neg (by simp)]
theorem tH {l h c d:Int} {T:List A1} (t:A1):t∈HI l h c d T↔(⟨t.Row+l,t.Col+c,t.Val⟩:A1)∈T∧(0≤t.Row∧t.Row+l<h)∧0≤t.Col∧t.Col+c<d:=by
 unfold HI
 simp only [List.mem_map,List.mem_filter,decide_eq_true_eq]
 constructor
 · rintro ⟨u,⟨hu,G⟩,rfl⟩
   simp only
   rw [show u.Row - l+l=u.Row by omega,show u.Col - c+c=u.Col by omega]
   exact ⟨hu,by omega,by omega,by omega⟩
 · rintro ⟨D,G⟩
   refine ⟨_,⟨D,?_⟩,?_⟩
   · simp only; omega
   · cases t; simp only [A1.mk.injEq]; exact ⟨by omega,by omega,trivial⟩
def AdN (l:List P9):Prop:=l.Pairwise fun a b=>a.At<b.At
instance (l:List P9):Decidable (AdN l):=by unfold AdN; infer_instance
def dU (r:Int):Option AL→Option AL→Option AL
 | none,y=>y
 | some a,none=>some a
 | some a,some b=>some (F1 r a b)
theorem KW (r:Int) (a:Option AL):dU r a none=a:=by cases a <;> rfl
end Go.Proofs.YtbohadngdkjljaaGreat
