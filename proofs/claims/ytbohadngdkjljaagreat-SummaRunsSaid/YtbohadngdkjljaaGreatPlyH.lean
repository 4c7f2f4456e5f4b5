import Derived.Test.YtbohadngdkjljaaGreatPlyE
namespace Go.Proofs.YtbohadngdkjljaaGreat
open Go Go.Fw
set_option linter.unusedVariables false
set_option linter.unusedSimpArgs false
variable {d:Data} {m:MS} {adr ra rb:Nat→Nat} {o:AR} {o3:A4} {o4:A9} {o0:A3} {o1:A2} {o2:A8}
variable {zs:List AB}
theorem uI:∀ l:List AB,(l.map GO).Nodup→∃ z,l.Perm z∧StrC z
 | [],_=>⟨[],.refl _,.nil⟩
 | x :: l,h=>by
  rw [List.map_cons,List.nodup_cons] at h
  obtain ⟨z,hp,V⟩:=uI l h.2
  have U:∀ y∈z,GO y≠GO x:=fun y J e=>h.1 (e▸List.mem_map_of_mem (hp.mem_iff.2 J))
  refine ⟨z.filter (fun y=>decide (MA (GO y) (GO x)))++x :: z.filter (fun y=>!decide (MA (GO y) (GO x))),?_,?_⟩
  · exact (hp.cons x).trans (((List.filter_append_perm _ z).symm.cons x).trans List.perm_middle.symm)
  · have G:∀ y∈z.filter (fun y=>!decide (MA (GO y) (GO x))),SR x y:=fun y J=>by
      obtain ⟨D,G⟩:=List.mem_filter.1 J
      have:=U y D
      simp only [Bool.not_eq_true',decide_eq_false_iff_not] at G
      unfold SR
      unfold MA GO at *
      simp only [ne_eq,Prod.mk.injEq] at *
      omega
    refine List.pairwise_append.2 ⟨V.filter _,List.pairwise_cons.2 ⟨G,V.filter _⟩,fun a W b O=>?_⟩
    have D:=(List.mem_filter.1 W).2
    simp only [decide_eq_true_eq] at D
    rcases List.mem_cons.1 O with rfl | O
    · exact D
    · exact IL D (G b O)
theorem QW {α β γ:Type} {f:α→Option β} {g:β→γ} {k:α→γ} (h:∀ t c,f t=some c→g c=k t):∀ l:List α,((l.filterMap f).map g).Sublist (l.map k)
 | []=>.slnil
 | x :: l=>by
  cases e:f x with
  | none=>rw [List.filterMap_cons_none e]; exact (QW h l).cons _
  | some c=>rw [List.filterMap_cons_some e,List.map_cons,List.map_cons,h x c e]; exact (QW h l).cons_cons _
def AbW (d:Data) (m:MS) (k:Nat):List AB:=(IV d (k / d.C) (k % d.C) (m.w k).at_).map (shC (d.rl (k / d.C)) (d.cl (k % d.C)))
theorem pR (d:Data) (m:MS):∀ n:Nat,((SF d m n).map GO).Sublist (((List.range n).flatMap fun k=>(kB d (k / d.C) (k % d.C)).map (shT (d.rl (k / d.C)) (d.cl (k % d.C)))).map key)
 | 0=>by simp [SF]
 | n+1=>by
  have e:SF d m (n+1)=SF d m n++AbW d m n:=by unfold SF; rw [List.range_succ,List.flatMap_append,List.flatMap_singleton]; rfl
  rw [e,List.range_succ,List.flatMap_append,List.flatMap_singleton,List.map_append,List.map_append]
  refine (pR d m n).append ?_
  unfold AbW IV FQ
  rw [List.map_map,List.map_map]
  refine QW (fun t c h=>?_) _
  unfold G1 at h
  cases hw:KY d.r (VZ d (n / d.C) 0 (BJ d.S (m.w n).at_)) (XE d (n % d.C) 0 (BJ d.S (m.w n).at_)) t.Row t.Col with
  | none=>rw [hw] at h; cases h
  | some w=>rw [hw] at h; cases h; rfl
theorem Aa9 (h:TH d) (m:MS):∃ zs,(SF d m (d.R*d.C)).Perm zs∧ZV d.n d.q zs:=by
 have hC:=h.C
 have hR:=h.R
 have D:((List.range (d.R*d.C)).flatMap fun k=>(kB d (k / d.C) (k % d.C)).map (shT (d.rl (k / d.C)) (d.cl (k % d.C)))).Perm d.M:=by
   rw [cF (by omega) (fun i j=>(kB d i j).map (shT (d.rl i) (d.cl j)))]
   exact dC h.cM ⟨⟨h.cM.r0,h.cM.r1⟩,by omega⟩ ⟨⟨h.cM.c0,h.cM.c1⟩,by omega⟩
 have G:=pR d m (d.R*d.C)
 have V:(d.M.map key).Nodup:=by
   have:=h.cM.srt
   unfold Srt at this
   exact List.pairwise_map.2 (this.imp fun {a b} (W:MA (key a) (key b)) (e:key a=key b)=>EE (key b) (by rw [e] at W; exact W))
 obtain ⟨z,hp,hz⟩:=uI _ (G.nodup ((D.map key).nodup_iff.2 V))
 refine ⟨z,hp,hz,fun c Z=>?_,fun c Z=>?_,?_⟩
 rotate_right
 · have h1:=G.length_le
   have h2:=D.length_eq
   have h3:=hp.length_eq
   have h4:=h.cM.len
   simp only [List.length_map] at h1
   omega
 all_goals
   obtain ⟨k,hk,J⟩:=List.mem_flatMap.1 (hp.mem_iff.2 Z)
   obtain ⟨x,hx,rfl⟩:=List.mem_map.1 J
   have U:=aO h (k / d.C)
   have b2:=aP h (k % d.C)
   obtain ⟨_,O,_⟩:=DJ h.cM (l:=d.rl (k / d.C)) (u:=d.rl (k / d.C+1)) (c:=d.cl (k % d.C)) (d:=d.cl (k % d.C+1)) U.1 U.2.1 U.2.2 b2.1 b2.2.1 b2.2.2
   have Y:=eM (r:=d.r) (ra:=0) (ca:=0) (rb:=0) (cb:=0) (A:=VZ d (k / d.C) 0 (BJ d.S (m.w k).at_)) (B:=XE d (k % d.C) 0 (BJ d.S (m.w k).at_)) O
 · have:=Y.inn x hx
   show (0≤x.Row+d.rl (k / d.C)∧x.Row+d.rl (k / d.C)<d.n)∧(0≤x.Col+d.cl (k % d.C)∧x.Col+d.cl (k % d.C)<d.q)
   omega
 · exact Y.ok x hx
theorem wG (h:TH d) (Y:RepR (d.ctx adr) ra rb m o o3 o4) (hp:(SF d m (d.R*d.C)).Perm zs) (hz:ZV d.n d.q zs) {Q:List AB→Prop} (hQ:Q zs):F6 o o3 Q:=by
 have hR:=h.R
 have hC:=h.C
 have hn:d.R*d.C≤64:=Nat.mul_le_mul hR.2 hC.2
 have hn1:=h.cM.r1
 have hq1:=h.cM.c1
 unfold F6
 have U:o.W.length=d.R*d.C:=Y.len
 rw [U,Y.p]
 refine BV (fun j (x:List (List AB)×Int)=>∃ k:Nat,x=((List.range k).map (AbW d m),(k:Int))∧k+j=d.R*d.C) (m0:=d.R*d.C) ⟨0,rfl,by omega⟩ ?_
 rintro j _ next ⟨k,rfl,hkj⟩ hnext
 show AD (decide ((k:Int)<((d.R*d.C:Nat):Int))) _ _
 refine A0 (fun hk=>?_) (fun hk=>?_)
 · have V:k<(d.ctx adr).n:=by show k<d.R*d.C; omega
   obtain ⟨x,hx,hw⟩:=Y.wk k V
   refine AA (by omega) (Y.get V) ?_
   have O:x.Has=IV d (k / d.C) (k % d.C) (m.w k).at_:=hw.has
   obtain ⟨hl,hin⟩:=gB h (k / d.C) (k % d.C) (m.w k).at_
   have Z:=aO h (k / d.C)
   have b2:=aP h (k % d.C)
   refine BV (fun j (y:Option Nat×List AB×Int)=>∃ i:Nat,y=(some (ra k),((IV d (k / d.C) (k % d.C) (m.w k).at_).take i).map (shC (d.rl (k / d.C)) (d.cl (k % d.C))),(i:Int))∧i+j=(IV d (k / d.C) (k % d.C) (m.w k).at_).length) (m0:=(IV d (k / d.C) (k % d.C) (m.w k).at_).length) ⟨0,by simp,by omega⟩ ?_
   rintro j2 _ next2 ⟨i,rfl,hij⟩ hnext2
   show CJ o3 (some (ra k)) _
   simp only [T9 hx,O,hw.i,hw.j]
   refine A0 (fun hi=>?_) (fun hi=>?_)
   · have D:i<(IV d (k / d.C) (k % d.C) (m.w k).at_).length:=by omega
     refine AJ D ?_
     show EN d.n (d.R:Int) ((k / d.C:Nat):Int) _
     refine EQ ?_
     show EN d.q (d.C:Int) ((k % d.C:Nat):Int) _
     refine EQ (AQ (by simp only [List.length_map,List.length_take,List.length_singleton]; omega) ?_)
     have hx':=hin _ (List.getElem_mem D)
     have e1:A7 ((IV d (k / d.C) (k % d.C) (m.w k).at_)[i].Row+BU d.n (d.R:Int) ((k / d.C:Nat):Int))=(IV d (k / d.C) (k % d.C) (m.w k).at_)[i].Row+d.rl (k / d.C):=by
      show A7 (_+d.rl (k / d.C))=_
      rw [AH (by omega) (by omega)]
     have e2:A7 ((IV d (k / d.C) (k % d.C) (m.w k).at_)[i].Col+BU d.q (d.C:Int) ((k % d.C:Nat):Int))=(IV d (k / d.C) (k % d.C) (m.w k).at_)[i].Col+d.cl (k % d.C):=by
      show A7 (_+d.cl (k % d.C))=_
      rw [AH (by omega) (by omega)]
     rw [e1,e2]
     refine hnext2 (j2 - 1) _ (by omega) ⟨i+1,?_,by omega⟩
     rw [AH (by omega) (by omega),List.take_succ_eq_append_getElem D,List.map_append]
     simp [shC]
   · have hie:i=(IV d (k / d.C) (k % d.C) (m.w k).at_).length:=by omega
     subst hie
     rw [List.take_length]
     refine AQ (by simp only [List.length_map,List.length_range,List.length_singleton]; omega) (hnext (j - 1) _ (by omega) ⟨k+1,?_,by omega⟩)
     rw [AH (by omega) (by omega),List.range_succ,List.map_append]; rfl
 · have hke:k=d.R*d.C:=by omega
   subst hke
   have G:((List.range (d.R*d.C)).map (AbW d m)).flatten=SF d m (d.R*d.C):=by rw [←List.flatMap_def]; rfl
   have J:VO (SF d m (d.R*d.C)):=fun c hc=>hz.ok c (hp.mem_iff.1 hc)
   have hll:=hp.length_eq
   have hzl:=hz.len
   show HS d.r _ _
   refine aA (by simp; omega) (by rw [G]; omega) (by rw [G]; exact J) (fun h'=>absurd h.r h') (fun _ h'=>absurd (fun l hl=>?_) h') (fun _ _ x hs ho hsl he'=>?_)
   · obtain ⟨k,hk,rfl⟩:=List.mem_map.1 hl
     have Z:=aO h (k / d.C)
     have b2:=aP h (k % d.C)
     obtain ⟨_,cM0,_⟩:=DJ h.cM (l:=d.rl (k / d.C)) (u:=d.rl (k / d.C+1)) (c:=d.cl (k % d.C)) (d:=d.cl (k % d.C+1)) Z.1 Z.2.1 Z.2.2 b2.1 b2.2.1 b2.2.2
     refine List.pairwise_map.2 ((NP cM0).1.imp fun {a b} hab=>?_)
     unfold SR MA at *
     simp only [shC] at *
     omega
   · have:x=zs:=fR (r:=d.r) hs hz.inc fun k=>by rw [he',G]; exact fQ hp J
     rw [this]; exact hQ
theorem sE (h:TH d) (D:RepR (d.ctx adr) ra rb m o o3 o4) (hp:(SF d m (d.R*d.C)).Perm zs) (G:ZV d.n d.q zs) {Q:Rows×Int→Prop} (J:Q (ON d.r d.n d.q zs)):D2 o o3 Q:=by
 unfold D2
 refine wG h D hp G ?_
 rw [D.p]
 exact oQ h.r ⟨⟨h.cM.r0,h.cM.r1⟩,h.cM.c0,h.cM.c1⟩ G J
theorem wH (h:TH d) (D:Rep (d.ctx adr) m o0 o1 o2) (hp:(SF d m (d.R*d.C)).Perm zs) (G:ZV d.n d.q zs) {Q:Rows×Int→Prop} (J:Q (ON d.r d.n d.q zs)):CD o0 o1 Q:=by
 unfold CD
 refine kD h D zs hp G.inc ?_
 rw [D.p]
 exact ZW h.r ⟨⟨h.cM.r0,h.cM.r1⟩,h.cM.c0,h.cM.c1⟩ G J
theorem sF {r rows cols:Int} {l:List AB}:II (ON r rows cols l).1:=by
 unfold ON
 split
 · exact xU lP
 · simp [II,zR]
variable {d:Data} {m:MS} {adr ra rb:Nat→Nat} {o:AR} {o3:A4} {o4:A9} {o0:A3} {o1:A2} {o2:A8}
noncomputable def chk (p:BF):Int:=
 if ¬(1≤p.Ring∧p.Ring≤5) then 8 else if ¬(G4 p.A∧G4 p.B∧G4 p.Mask) then 7
 else if ¬(p.A.Cols=p.B.Rows∧p.Mask.Rows=p.A.Rows∧p.Mask.Cols=p.B.Cols) then 4
 else if ¬((1≤p.R∧p.R≤8)∧(1≤p.C∧p.C≤8)∧(1≤p.Room∧p.Room≤64)) then 3 else 0
theorem AcF {p:BF} (hA:MV p.A) (W:MV p.B) (Y:MV p.Mask) {Q:Int→Prop} (G:Q (chk p)):EV p Q:=by
 unfold chk at G
 unfold EV
 refine JX (BN (fun h=>?_) fun h=>?_)
 · rwa [if_pos (of_decide_eq_false h)] at G
 rw [if_neg (not_not_intro (of_decide_eq_true h))] at G
 refine CA (fun s=>s = !decide (G4 p.A∧G4 p.B∧G4 p.Mask)) ?_ fun k hk=>?_
 rotate_left
 · refine PY hA (BN (fun h=>hk _ ?_) fun J=>PY W (BN (fun h=>hk _ ?_) fun U=>PY Y (hk _ ?_)))
   · have:=of_decide_eq_false h; simp [this]
   · have:=of_decide_eq_false h; simp [this]
   · have:=of_decide_eq_true J; have:=of_decide_eq_true U; simp [*]
 rintro _ rfl
 refine BN (fun h=>?_) fun h=>?_
 · rwa [if_pos (of_decide_eq_false h)] at G
 rw [if_neg (not_not_intro (of_decide_eq_true h))] at G
 refine CA (fun s=>s = !decide (p.A.Cols=p.B.Rows∧p.Mask.Rows=p.A.Rows∧p.Mask.Cols=p.B.Cols)) ?_ fun k hk=>?_
 rotate_left
 · refine CB (fun h=>hk _ ?_) fun J=>CB (fun h=>hk _ ?_) fun U=>hk _ ?_
   · simp [h]
   · simp [h]
   · by_cases h3:p.Mask.Cols=p.B.Cols <;> simp [J,U,h3]
 rintro _ rfl
 refine BN (fun h=>?_) fun h=>?_
 · rwa [if_pos (of_decide_eq_false h)] at G
 rw [if_neg (not_not_intro (of_decide_eq_true h))] at G
 have D:∀ {a m:Int} {A B:Prop},(¬(1≤a∧a≤m)→A)→(1≤a∧a≤m→B)→FR a m fun r=>AD (!r) A B:=fun {a m A B} J U=>by
   unfold FR
   exact A0 (fun O=>BN (fun g=>J fun e=>(of_decide_eq_false g) e.2) fun g=>U ⟨O,of_decide_eq_true g⟩) fun O=>AU rfl (J fun e=>O e.1)
 refine D (fun g=>?_) fun O=>D (fun g=>?_) fun Z=>D (fun g=>?_) fun V=>?_
 · rwa [if_pos fun e=>g e.1] at G
 · rwa [if_pos fun e=>g e.2.1] at G
 · rwa [if_pos fun e=>g e.2.2] at G
 · rwa [if_neg (not_not_intro ⟨O,Z,V⟩)] at G
theorem AcG {p:BF} (hA:MV p.A) (O:MV p.B) (W:MV p.Mask) {Q:Int→Prop} (D:Q (chk p)):GF p Q:=by
 unfold chk at D
 unfold GF
 refine JY (BN (fun h=>?_) fun h=>?_)
 · rwa [if_pos (of_decide_eq_false h)] at D
 rw [if_neg (not_not_intro (of_decide_eq_true h))] at D
 have G:¬(G4 p.A∧G4 p.B∧G4 p.Mask)→Q 7:=fun h=>by rwa [if_pos h] at D
 refine IP hA (BN (fun h=>G fun e=>(of_decide_eq_false h) e.1) fun Y=>IP O (BN (fun h=>G fun e=>(of_decide_eq_false h) e.2.1) fun Z=>IP W (BN (fun h=>G fun e=>(of_decide_eq_false h) e.2.2) fun h3=>?_)))
 rw [if_neg (not_not_intro ⟨of_decide_eq_true Y,of_decide_eq_true Z,of_decide_eq_true h3⟩)] at D
 have c4:¬(p.A.Cols=p.B.Rows∧p.Mask.Rows=p.A.Rows∧p.Mask.Cols=p.B.Cols)→Q 4:=fun h=>by rwa [if_pos h] at D
 refine CB (fun h=>c4 fun e=>h e.1) fun U=>CB (fun h=>c4 fun e=>h e.2.1) fun V=>CB (fun h=>c4 fun e=>h e.2.2) fun J=>?_
 rw [if_neg (not_not_intro ⟨U,V,J⟩)] at D
 have c3:¬((1≤p.R∧p.R≤8)∧(1≤p.C∧p.C≤8)∧(1≤p.Room∧p.Room≤64))→Q 3:=fun h=>by rwa [if_pos h] at D
 refine A0 (fun h=>c3 (by omega)) fun k1=>A0 (fun h=>c3 (by omega)) fun k2=>A0 (fun h=>c3 (by omega)) fun k3=>A0 (fun h=>c3 (by omega)) fun k4=>A0 (fun h=>c3 (by omega)) fun k5=>A0 (fun h=>c3 (by omega)) fun k6=>?_
 rwa [if_neg (not_not_intro ⟨⟨by omega,by omega⟩,⟨by omega,by omega⟩,by omega,by omega⟩)] at D
variable {d:Data}
theorem AbX (h0:DOk0 d) {S:List AV} (hS:SegSp d.k d.R d.C d.k S) (h:TH (d.wS S)) {adr:Nat→Nat} (U:X3 ((d.wS S).ctx adr)) {l:List EI} {w:Nat} (hl:l.length≤1048576) (hmv:∀ x∈l,dX x=true) (hw:w≤1048576)
   (hz1:(SF (d.wS S) (UT ((d.wS S).ctx adr) w (XF ((d.wS S).ctx adr) l (init (d.wS S)))) (d.R*d.C)).Perm zs) (hz2:ZV d.n d.q zs) {Q:(Rows×Bool×Int)→Prop}
   (hQ:Q ((ON d.r d.n d.q zs).1,(UT ((d.wS S).ctx adr) w (XF ((d.wS S).ctx adr) l (init (d.wS S)))).ended ((d.wS S).ctx adr),(ON d.r d.n d.q zs).2)):IK d.p l (w:Int) Q:=by
 unfold IK
 refine cO h0 (AC rfl (AC (by simp; omega) ?_))
 refine BV (fun j (x:Int)=>∃ i:Nat,x=(i:Int)∧i+j=l.length) (m0:=l.length) ⟨0,rfl,by omega⟩ ?_
 rintro j0 _ next0 ⟨i,rfl,hij⟩ hnext0
 refine A0 (fun hi=>?_) fun _=>?_
 · have D:i<l.length:=by omega
   refine AJ D (SG ?_)
   rw [hmv _ (List.getElem_mem D)]
   have ew:A7 ((i:Int)+1)=((i+1:Nat):Int):=by rw [AH (by omega) (by omega)]; simp
   rw [ew]
   exact AC rfl (hnext0 (j0 - 1) _ (by omega) ⟨i+1,rfl,by omega⟩)
 refine AC (by simp) (AC (by simp; omega) (AbV (adr:=adr) h0 hS h fun ra rb o q3 q4 hrr=>?_))
 have hrk:RkR ((d.wS S).ctx adr):=AdA h _
 have hg:Good ((d.wS S).ctx adr) (init (d.wS S)):=cL h _
 have hli:=kF h adr
 have J:∀ {a3:A4} {a4:A9},RepR ((d.wS S).ctx adr) ra rb (UT ((d.wS S).ctx adr) w (XF ((d.wS S).ctx adr) l (init (d.wS S)))) o a3 a4→D2 o a3 fun r=>CS o a3 fun e=>Q (r.1,e,r.2):=fun hr=>sE (d:=d.wS S) h hr hz1 hz2 (kI U hr hQ)
 clear hQ hz1 hz2
 generalize ((d.wS S).ctx adr)=c at U hrr hrk hg hli J
 refine BV (fun j (x:Int×A4×A9)=>∃ (i:Nat) (a1:A4) (a2:A9),x=((i:Int),a1,a2)∧i+j=l.length∧RepR c ra rb (XF c (l.take i) (init (d.wS S))) o a1 a2) (m0:=l.length) ⟨0,q3,q4,rfl,by omega,hrr⟩ ?_
 rintro j _ next ⟨i,a1,a2,rfl,hij,hr⟩ hnext
 obtain ⟨W,Y⟩:=cN U (l.take i) hli hg
 refine A0 (fun hi=>?_) (fun hi=>?_)
 · have D:i<l.length:=by have:(i:Int)<(l.length:Int):=hi; omega
   refine AJ D (AbU U hrk hr Y W (x:=l[i]) fun b1 b2 hb=>?_)
   have ew:A7 ((i:Int)+1)=((i+1:Nat):Int):=by rw [AH (by omega) (by omega)]; simp
   rw [ew]
   exact hnext (j - 1) _ (by omega) ⟨i+1,b1,b2,rfl,by omega,by rw [List.take_succ_eq_append_getElem D,kH]; exact hb⟩
 · have hil:i=l.length:=by have:¬(i:Int)<(l.length:Int):=hi; omega
   subst hil
   rw [List.take_length] at hr W Y
   unfold DR
   refine BV (fun j (x:Int×A4×A9)=>∃ (i:Nat) (O:MS) (a1:A4) (a2:A9),x=((i:Int),a1,a2)∧i+j=w∧RepR c ra rb O o a1 a2∧Live c (iH c (init (d.wS S))) O∧Good c O∧UT c j O=UT c w (XF c l (init (d.wS S)))) (m0:=w) ⟨0,_,a1,a2,rfl,by omega,hr,W,Y,rfl⟩ ?_
   rintro j2 _ next2 ⟨i,O,b1,b2,rfl,hij2,V,hlm,Z,G⟩ hnext2
   have J:UT c j2 O=O→D2 o b1 fun r=>CS o b1 fun e=>Q (r.1,e,r.2):=fun he=>by
     rw [he] at G
     exact J (by rw [←G]; exact V)
   refine A0 (fun hi=>?_) (fun hi=>?_)
   · have hi:(i:Int)<(w:Int):=hi
     obtain ⟨j3,rfl⟩:∃ j3,j2=j3+1:=⟨j2 - 1,by omega⟩
     refine kI U V ?_
     cases he:O.ended c with
     | true=>exact AC rfl (J (gH he _))
     | false=>
      refine AU rfl (gK U hrk V Z hlm fun e1 e2 hre=>?_)
      have ew:A7 ((i:Int)+1)=((i+1:Nat):Int):=by rw [AH (by omega) (by omega)]; simp
      rw [ew]
      refine hnext2 j3 _ (by omega) ⟨i+1,_,e1,e2,rfl,by omega,hre,hlm.window U Z,Z.window U,?_⟩
      rw [←G]
      show _=if O.ended c=true then O else UT c j3 (O.window c).2
      rw [he]
      rfl
   · have:j2=0:=by have:¬(i:Int)<(w:Int):=hi; omega
     subst this
     exact J rfl
theorem mQ:II zR:=by simp [II,zR]
theorem pS (W:DOk0 d) {l:List EI} {w:Int} (hl:l.length≤1048576) (D:∀ x∈l,dX x=true) {B:(Rows×Bool×Int)→(Rows×Bool×Int)→Prop} (Z:∀ x:Rows×Bool×Int,II x.1→B x x) :
   G8 d.p l w fun x=>IK d.p l w fun y=>B x y:=by
 by_cases hw:0≤w∧w≤1048576
 · obtain ⟨n,rfl⟩:∃ n:Nat,w=n:=⟨w.toNat,by omega⟩
   refine uF W hl D (by omega) fun S G b0 b1 b2 hS h Y _ hr=>?_
   obtain ⟨zs,U,V⟩:=Aa9 h (UT ((d.wS S).ctx fun i=>G.getD i 0) n (XF ((d.wS S).ctx fun i=>G.getD i 0) l (init (d.wS S))))
   exact wH h hr U V (aN Y hr (AbX W hS h Y hl D (by omega) U V (Z _ sF)))
 · have O:∀ {Q:(Rows×Bool×Int)→Prop},Q (zR,false,3)→IK d.p l w Q:=fun {Q} hQ=>by
    unfold IK
    refine cO W (AC rfl (AC (by simp; omega) ?_))
    refine BV (fun j (x:Int)=>∃ i:Nat,x=(i:Int)∧i+j=l.length) (m0:=l.length) ⟨0,rfl,by omega⟩ ?_
    rintro j0 _ next0 ⟨i,rfl,hij⟩ hnext0
    refine A0 (fun hi=>?_) fun _=>A0 (fun _=>hQ) fun g1=>A0 (fun _=>hQ) fun g2=>absurd ⟨by omega,by omega⟩ hw
    have J:i<l.length:=by omega
    refine AJ J (SG ?_)
    rw [D _ (List.getElem_mem J)]
    have ew:A7 ((i:Int)+1)=((i+1:Nat):Int):=by rw [AH (by omega) (by omega)]; simp
    rw [ew]
    exact AC rfl (hnext0 (j0 - 1) _ (by omega) ⟨i+1,rfl,by omega⟩)
   unfold G8
   refine mM W fun S G bk hS h Y hrep=>AC rfl (AC (by simp; omega) (dL hl D (AC rfl ?_)))
   exact A0 (fun _=>O (Z _ mQ)) fun g1=>A0 (fun _=>O (Z _ mQ)) fun g2=>absurd ⟨by omega,by omega⟩ hw
theorem AbY {p:BF} (O:MV p.A) (D:MV p.B) (G:MV p.Mask) (V:chk p=0→∃ d,DOk0 d∧p=d.p) {w:Int} {B:(Rows×Bool×Int)→(Rows×Bool×Int)→Prop} (J:∀ x:Rows×Bool×Int,II x.1→B x x) :
   G8 p [] w fun x=>IK p [] w fun y=>B x y:=by
 by_cases hz:chk p=0
 · obtain ⟨d,U,rfl⟩:=V hz
   exact pS U (by simp) (fun x W=>absurd W List.not_mem_nil) J
 · have h:(chk p != 0)=true:=by simpa using hz
   unfold G8 EP
   refine AcF O D G (AU h (AU h ?_))
   unfold IK
   exact AcG O D G (AU h (J _ mQ))
theorem mR (a0:HV) (a1:GB) (a2:Int×Int×Int×Int) (h0:TT a0) (h1:VF a1):OZ a0 a1 a2 (fun r=>r=true):=by
 unfold OZ
 refine AbP h0 fun d D hR hC hm=>?_
 have hR1:=D.R
 have hC1:=D.C
 have hn16:d.R*d.C≤4*4:=Nat.mul_le_mul hR hC
 have hn1:1≤d.R*d.C:=Nat.mul_pos (by omega) (by omega)
 have O:((d.R:Int)*(d.C:Int))=((d.R*d.C:Nat):Int):=by simp
 have Y:A7 (d.p.R*d.p.C)=((d.R*d.C:Nat):Int):=by
   show A7 ((d.R:Int)*(d.C:Int))=_
   rw [O,AH (by omega) (by omega)]
 rw [Y]
 refine wC ⟨by omega,by omega⟩ fun l Z=>?_
 have W:=Z.len
 refine pS D (by omega) Z.mv fun x hx=>?_
 refine CA (fun s:Int=>s=d.k∨s=d.k+1) ?_ fun k' G=>?_
 rotate_left
 · have hk:=D.cA.c1
   have hk0:=D.cA.c0
   have e:A7 (d.p.A.Cols+1)=d.k+1:=by show A7 (d.k+1)=_; rw [AH (by omega) (by omega)]
   rw [e]
   exact BB (fun _=>G _ (.inr rfl)) fun _=>G _ (.inl rfl)
 intro s hs
 have U:MV (⟨d.p.A.Rows,s,d.p.A.Start,d.p.A.Col,d.p.A.Val⟩:Rows):=⟨D.cA.sml.1,D.cA.sml.2.1⟩
 have J:MV d.p.B:=⟨D.cB.sml.1,D.cB.sml.2.1⟩
 have V:MV d.p.Mask:=⟨D.cM.sml.1,D.cM.sml.2.1⟩
 refine AbY (p:={ Ring:=d.p.Ring,A:=⟨d.p.A.Rows,s,d.p.A.Start,d.p.A.Col,d.p.A.Val⟩,B:=d.p.B,Mask:=d.p.Mask,R:=a2.1,C:=a2.2.1,Room:=a2.2.2.1 }) U J V (fun h=>?_) fun y hy=>?_
 · have h4:s=d.k:=by
     unfold chk at h
     split at h
     · cases h
     · split at h
       · cases h
       · split at h
         · cases h
         · rename_i g; exact (Decidable.not_not.1 g).1
   subst h4
   have h3:(1≤a2.1∧a2.1≤8)∧(1≤a2.2.1∧a2.2.1≤8)∧(1≤a2.2.2.1∧a2.2.2.1≤64):=by
     unfold chk at h
     split at h
     · cases h
     · split at h
       · cases h
       · split at h
         · cases h
         · split at h
           · cases h
           · rename_i g; exact Decidable.not_not.1 g
   refine ⟨{ d with R:=a2.1.toNat,C:=a2.2.1.toNat,room:=a2.2.2.1.toNat },⟨D.r,D.cA,D.cB,D.cM,D.vA,D.vB,D.vM,by show 1≤a2.1.toNat∧a2.1.toNat≤8; omega,by show 1≤a2.2.1.toNat∧a2.2.1.toNat≤8; omega,by show 1≤a2.2.2.1.toNat∧a2.2.2.1.toNat≤64; omega⟩,?_⟩
   unfold Data.p
   simp only [BF.mk.injEq,true_and]
   exact ⟨rfl,by omega,by omega,by omega⟩
 · have sc:=fun {Q:Int→Prop}=>AcF (p:=({ Ring:=d.p.Ring,A:=⟨d.p.A.Rows,s,d.p.A.Start,d.p.A.Col,d.p.A.Val⟩,B:=d.p.B,Mask:=d.p.Mask,R:=a2.1,C:=a2.2.1,Room:=a2.2.2.1 }:BF)) (Q:=Q) U J V
   have rc:=fun {Q:Int→Prop}=>AcG (p:=({ Ring:=d.p.Ring,A:=⟨d.p.A.Rows,s,d.p.A.Start,d.p.A.Col,d.p.A.Val⟩,B:=d.p.B,Mask:=d.p.Mask,R:=a2.1,C:=a2.2.1,Room:=a2.2.2.1 }:BF)) (Q:=Q) U J V
   refine wA (AU rfl (oC hx (AU (by simp) (AU (by simp) (AU (by simp) ?_)))))
   refine sc (rc (AU (by simp) ?_))
   unfold GG VE
   refine sc ?_
   by_cases h:chk ({ Ring:=d.p.Ring,A:=⟨d.p.A.Rows,s,d.p.A.Start,d.p.A.Col,d.p.A.Val⟩,B:=d.p.B,Mask:=d.p.Mask,R:=a2.1,C:=a2.2.1,Room:=a2.2.2.1 }:BF)=0
   · refine AC (by simpa using h) (rc (AC (by simpa using h) (AU (by simp) ?_)))
     simp
   · refine AU (by simpa using h) (rc (AU (by simpa using h) (AU (by simp) ?_)))
     simp
end Go.Proofs.YtbohadngdkjljaaGreat
