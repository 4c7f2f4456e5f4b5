import Derived.Test.YtbohadngdkjljaaGreatPlyE
namespace Go.Proofs.YtbohadngdkjljaaGreat
open Go Go.Fw
set_option linter.unusedVariables false
set_option linter.unusedSimpArgs false
variable {d:Data} {m:MS} {adr ra rb:Nat→Nat} {o:AM} {o3:A4} {o4:AA} {o0:A1} {o1:A2} {o2:A6}
variable {zs:List AB}
theorem uI:∀ l:List AB,(l.map GP).Nodup→∃ z,l.Perm z∧StrC z
 | [],_=>⟨[],.refl _,.nil⟩
 | x :: l,h=>by
  rw [List.map_cons,List.nodup_cons] at h
  obtain ⟨z,hp,V⟩:=uI l h.2
  have O:∀ y∈z,GP y≠GP x:=fun y U e=>h.1 (e▸List.mem_map_of_mem (hp.mem_iff.2 U))
  refine ⟨z.filter (fun y=>decide (MF (GP y) (GP x)))++x :: z.filter (fun y=>!decide (MF (GP y) (GP x))),?_,?_⟩
  · exact (hp.cons x).trans (((List.filter_append_perm _ z).symm.cons x).trans List.perm_middle.symm)
  · have G:∀ y∈z.filter (fun y=>!decide (MF (GP y) (GP x))),SJ x y:=fun y U=>by
      obtain ⟨D,G⟩:=List.mem_filter.1 U
      have:=O y D
      simp only [Bool.not_eq_true',decide_eq_false_iff_not] at G
      unfold SJ
      unfold MF GP at *
      simp only [ne_eq,Prod.mk.injEq] at *
      omega
    refine List.pairwise_append.2 ⟨V.filter _,List.pairwise_cons.2 ⟨G,V.filter _⟩,fun a W b J=>?_⟩
    have D:=(List.mem_filter.1 W).2
    simp only [decide_eq_true_eq] at D
    rcases List.mem_cons.1 J with rfl | J
    · exact D
    · exact IM D (G b J)
theorem QU {α β γ:Type} {f:α→Option β} {g:β→γ} {k:α→γ} (h:∀ t c,f t=some c→g c=k t):∀ l:List α,((l.filterMap f).map g).Sublist (l.map k)
 | []=>.slnil
 | x :: l=>by
  cases e:f x with
  | none=>rw [List.filterMap_cons_none e]; exact (QU h l).cons _
  | some c=>rw [List.filterMap_cons_some e,List.map_cons,List.map_cons,h x c e]; exact (QU h l).cons_cons _
def Ac1 (d:Data) (m:MS) (k:Nat):List AB:=(IV d (k / d.C) (k % d.C) (m.w k).at_).map (shC (d.rl (k / d.C)) (d.cl (k % d.C)))
theorem pP (d:Data) (m:MS):∀ n:Nat,((T5 d m n).map GP).Sublist (((List.range n).flatMap fun k=>(jX d (k / d.C) (k % d.C)).map (shT (d.rl (k / d.C)) (d.cl (k % d.C)))).map key)
 | 0=>by simp [T5]
 | n+1=>by
  have e:T5 d m (n+1)=T5 d m n++Ac1 d m n:=by unfold T5; rw [List.range_succ,List.flatMap_append,List.flatMap_singleton]; rfl
  rw [e,List.range_succ,List.flatMap_append,List.flatMap_singleton,List.map_append,List.map_append]
  refine (pP d m n).append ?_
  unfold Ac1 IV FT
  rw [List.map_map,List.map_map]
  refine QU (fun t c h=>?_) _
  unfold G4 at h
  cases hw:KY d.r (VO d (n / d.C) 0 (BJ d.S (m.w n).at_)) (X3 d (n % d.C) 0 (BJ d.S (m.w n).at_)) t.Row t.Col with
  | none=>rw [hw] at h; cases h
  | some w=>rw [hw] at h; cases h; rfl
theorem AaD (h:SM d) (m:MS):∃ zs,(T5 d m (d.R*d.C)).Perm zs∧cQ d.n d.q zs:=by
 have hC:=h.C
 have hR:=h.R
 have D:((List.range (d.R*d.C)).flatMap fun k=>(jX d (k / d.C) (k % d.C)).map (shT (d.rl (k / d.C)) (d.cl (k % d.C)))).Perm d.M:=by
   rw [bT (by omega) (fun i j=>(jX d i j).map (shT (d.rl i) (d.cl j)))]
   exact cS h.cM ⟨⟨h.cM.r0,h.cM.r1⟩,by omega⟩ ⟨⟨h.cM.c0,h.cM.c1⟩,by omega⟩
 have G:=pP d m (d.R*d.C)
 have V:(d.M.map key).Nodup:=by
   have:=h.cM.srt
   unfold Srt at this
   exact List.pairwise_map.2 (this.imp fun {a b} (Z:MF (key a) (key b)) (e:key a=key b)=>EH (key b) (by rw [e] at Z; exact Z))
 obtain ⟨z,hp,hz⟩:=uI _ (G.nodup ((D.map key).nodup_iff.2 V))
 refine ⟨z,hp,hz,fun c Y=>?_,fun c Y=>?_,?_⟩
 rotate_right
 · have h1:=G.length_le
   have h2:=D.length_eq
   have h3:=hp.length_eq
   have h4:=h.cM.len
   simp only [List.length_map] at h1
   omega
 all_goals
   obtain ⟨k,hk,O⟩:=List.mem_flatMap.1 (hp.mem_iff.2 Y)
   obtain ⟨x,W,rfl⟩:=List.mem_map.1 O
   have U:=aD h (k / d.C)
   have b2:=aF h (k % d.C)
   obtain ⟨_,J,_⟩:=DO h.cM (l:=d.rl (k / d.C)) (u:=d.rl (k / d.C+1)) (c:=d.cl (k % d.C)) (d:=d.cl (k % d.C+1)) U.1 U.2.1 U.2.2 b2.1 b2.2.1 b2.2.2
   have hP:=dW (r:=d.r) (ra:=0) (ca:=0) (rb:=0) (cb:=0) (A:=VO d (k / d.C) 0 (BJ d.S (m.w k).at_)) (B:=X3 d (k % d.C) 0 (BJ d.S (m.w k).at_)) J
 · have:=hP.inn x W
   show (0≤x.Row+d.rl (k / d.C)∧x.Row+d.rl (k / d.C)<d.n)∧(0≤x.Col+d.cl (k % d.C)∧x.Col+d.cl (k % d.C)<d.q)
   omega
 · exact hP.ok x W
theorem kF (h:SM d) (Z:RepR (d.ctx adr) ra rb m o o3 o4) (hp:(T5 d m (d.R*d.C)).Perm zs) (hz:cQ d.n d.q zs) {Q:List AB→Prop} (hQ:Q zs):E5 o o3 Q:=by
 have hR:=h.R
 have hC:=h.C
 have hn:d.R*d.C≤64:=Nat.mul_le_mul hR.2 hC.2
 have hn1:=h.cM.r1
 have hq1:=h.cM.c1
 unfold E5
 have V:o.W.length=d.R*d.C:=Z.len
 rw [V,Z.p]
 refine BT (fun j (x:List (List AB)×Int)=>∃ k:Nat,x=((List.range k).map (Ac1 d m),(k:Int))∧k+j=d.R*d.C) (m0:=d.R*d.C) ⟨0,rfl,by omega⟩ ?_
 rintro j _ next ⟨k,rfl,hkj⟩ hnext
 show AD (decide ((k:Int)<((d.R*d.C:Nat):Int))) _ _
 refine A0 (fun hk=>?_) (fun hk=>?_)
 · have U:k<(d.ctx adr).n:=by show k<d.R*d.C; omega
   obtain ⟨x,hx,hw⟩:=Z.wk k U
   refine A9 (by omega) (Z.get U) ?_
   have O:x.Has=IV d (k / d.C) (k % d.C) (m.w k).at_:=hw.has
   obtain ⟨hl,hin⟩:=fR h (k / d.C) (k % d.C) (m.w k).at_
   have Y:=aD h (k / d.C)
   have b2:=aF h (k % d.C)
   refine BT (fun j (y:Option Nat×List AB×Int)=>∃ i:Nat,y=(some (ra k),((IV d (k / d.C) (k % d.C) (m.w k).at_).take i).map (shC (d.rl (k / d.C)) (d.cl (k % d.C))),(i:Int))∧i+j=(IV d (k / d.C) (k % d.C) (m.w k).at_).length) (m0:=(IV d (k / d.C) (k % d.C) (m.w k).at_).length) ⟨0,by simp,by omega⟩ ?_
   rintro j2 _ next2 ⟨i,rfl,hij⟩ hnext2
   show CE o3 (some (ra k)) _
   simp only [T3 hx,O,hw.i,hw.j]
   refine A0 (fun hi=>?_) (fun hi=>?_)
   · have D:i<(IV d (k / d.C) (k % d.C) (m.w k).at_).length:=by omega
     refine AK D ?_
     show EQ d.n (d.R:Int) ((k / d.C:Nat):Int) _
     refine EW ?_
     show EQ d.q (d.C:Int) ((k % d.C:Nat):Int) _
     refine EW (AR (by simp only [List.length_map,List.length_take,List.length_singleton]; omega) ?_)
     have hx':=hin _ (List.getElem_mem D)
     have e1:A7 ((IV d (k / d.C) (k % d.C) (m.w k).at_)[i].Row+BS d.n (d.R:Int) ((k / d.C:Nat):Int))=(IV d (k / d.C) (k % d.C) (m.w k).at_)[i].Row+d.rl (k / d.C):=by
      show A7 (_+d.rl (k / d.C))=_
      rw [AJ (by omega) (by omega)]
     have e2:A7 ((IV d (k / d.C) (k % d.C) (m.w k).at_)[i].Col+BS d.q (d.C:Int) ((k % d.C:Nat):Int))=(IV d (k / d.C) (k % d.C) (m.w k).at_)[i].Col+d.cl (k % d.C):=by
      show A7 (_+d.cl (k % d.C))=_
      rw [AJ (by omega) (by omega)]
     rw [e1,e2]
     refine hnext2 (j2 - 1) _ (by omega) ⟨i+1,?_,by omega⟩
     rw [AJ (by omega) (by omega),List.take_succ_eq_append_getElem D,List.map_append]
     simp [shC]
   · have hie:i=(IV d (k / d.C) (k % d.C) (m.w k).at_).length:=by omega
     subst hie
     rw [List.take_length]
     refine AR (by simp only [List.length_map,List.length_range,List.length_singleton]; omega) (hnext (j - 1) _ (by omega) ⟨k+1,?_,by omega⟩)
     rw [AJ (by omega) (by omega),List.range_succ,List.map_append]; rfl
 · have hke:k=d.R*d.C:=by omega
   subst hke
   have G:((List.range (d.R*d.C)).map (Ac1 d m)).flatten=T5 d m (d.R*d.C):=by rw [←List.flatMap_def]; rfl
   have J:VA (T5 d m (d.R*d.C)):=fun c hc=>hz.ok c (hp.mem_iff.1 hc)
   have hll:=hp.length_eq
   have hzl:=hz.len
   show HU d.r _ _
   refine ZP (by simp; omega) (by rw [G]; omega) (by rw [G]; exact J) (fun h'=>absurd h.r h') (fun _ h'=>absurd (fun l hl=>?_) h') (fun _ _ x hs ho hsl he'=>?_)
   · obtain ⟨k,hk,rfl⟩:=List.mem_map.1 hl
     have Y:=aD h (k / d.C)
     have b2:=aF h (k % d.C)
     obtain ⟨_,cM0,_⟩:=DO h.cM (l:=d.rl (k / d.C)) (u:=d.rl (k / d.C+1)) (c:=d.cl (k % d.C)) (d:=d.cl (k % d.C+1)) Y.1 Y.2.1 Y.2.2 b2.1 b2.2.1 b2.2.2
     refine List.pairwise_map.2 ((NV cM0).1.imp fun {a b} hab=>?_)
     unfold SJ MF at *
     simp only [shC] at *
     omega
   · have:x=zs:=fH (r:=d.r) hs hz.inc fun k=>by rw [he',G]; exact fG hp J
     rw [this]; exact hQ
theorem sH (h:SM d) (G:RepR (d.ctx adr) ra rb m o o3 o4) (hp:(T5 d m (d.R*d.C)).Perm zs) (D:cQ d.n d.q zs) {Q:Rows×Int→Prop} (J:Q (QN d.r d.n d.q zs)):EU o o3 Q:=by
 unfold EU
 refine kF h G hp D ?_
 rw [G.p]
 exact oK h.r ⟨⟨h.cM.r0,h.cM.r1⟩,h.cM.c0,h.cM.c1⟩ D J
theorem wK (h:SM d) (G:Rep (d.ctx adr) m o0 o1 o2) (hp:(T5 d m (d.R*d.C)).Perm zs) (D:cQ d.n d.q zs) {Q:Rows×Int→Prop} (J:Q (QN d.r d.n d.q zs)):BU o0 o1 Q:=by
 unfold BU
 refine bZ h G zs hp D.inc ?_
 rw [G.p]
 exact ZL h.r ⟨⟨h.cM.r0,h.cM.r1⟩,h.cM.c0,h.cM.c1⟩ D J
theorem uJ {g:Nat→Nat} {k:Nat}:∀ {n:Nat},k≤n→MH g k≤MH g n
  | 0, h => by have : k = 0 := by omega
               subst this; exact Nat.le_refl _
  | n+1,h=>by
    by_cases e:k=n+1
    · subst e; exact Nat.le_refl _
    · have:=uJ (g:=g) (show k≤n by omega)
      show MH g k≤MH g n+g n
      omega
theorem AaE {c:SK} (Y:VL c) (W:0<c.n) (h:RepR c ra rb m o o3 o4) (hb:KZ c m≤1000000000) {Q:Int→Prop} (hQ:Q (KZ c m:Int)):FS o o4 Q:=by
 have V:=Y.n
 have hn2:c.n*c.n≤64*64:=Nat.mul_le_mul V V
 have D:MH (fun k=>(m.bx (k / c.n) (k % c.n)).fs.length) (c.n*c.n)=KZ c m:=fW (fun f t=>(m.bx f t).fs.length) W c.n
 unfold FS
 rw [h.bs]
 simp only [List.length_map,List.length_range]
 refine BT (fun j (x:Int×Int)=>∃ k:Nat,x=((MH (fun k=>(m.bx (k / c.n) (k % c.n)).fs.length) k:Int),(k:Int))∧k+j=c.n*c.n) (m0:=c.n*c.n) ⟨0,rfl,by omega⟩ ?_
 rintro j _ next ⟨k,rfl,hkj⟩ hnext
 show AD (decide ((k:Int)<((c.n*c.n:Nat):Int))) _ _
 refine A0 (fun hk=>?_) (fun hk=>?_)
 · have J:k<c.n*c.n:=by omega
   have hf:k / c.n<c.n:=Nat.div_lt_of_lt_mul J
   have Z:k % c.n<c.n:=Nat.mod_lt _ W
   obtain ⟨pb,G,hi⟩:=h.bx _ _ hf Z
   rw [Nat.div_add_mod'] at G
   refine A9 (by omega) (x:=some (rb k)) (by rw [Int.toNat_natCast,List.getElem?_map,List.getElem?_range J]; rfl) (D4 G ?_)
   have O:=uJ (g:=fun k=>(m.bx (k / c.n) (k % c.n)).fs.length) (show k+1≤c.n*c.n by omega)
   rw [D] at O
   have es:MH (fun k=>(m.bx (k / c.n) (k % c.n)).fs.length) (k+1)=MH (fun k=>(m.bx (k / c.n) (k % c.n)).fs.length) k+(m.bx (k / c.n) (k % c.n)).fs.length:=rfl
   refine hnext (j - 1) _ (by omega) ⟨k+1,?_,by omega⟩
   rw [hi.out,AJ (by omega) (by omega),AJ (by omega) (by omega),es]; simp
 · have U:k=c.n*c.n:=by omega
   subst U
   show Q _
   rw [D]; exact hQ
theorem sI {r rows cols:Int} {l:List AB}:KV (QN r rows cols l).1:=by
 unfold QN
 split
 · exact xX lM
 · simp [KV,zR]
variable {d:Data} {m:MS} {adr ra rb:Nat→Nat} {o:AM} {o3:A4} {o4:AA} {o0:A1} {o1:A2} {o2:A6}
theorem AaF (h:SM d) (W:VL (d.ctx adr)) (hp:Rep (d.ctx adr) m o0 o1 o2) (J:RepR (d.ctx adr) ra rb m o o3 o4) (hs:KZ (d.ctx adr) m≤1000000000) {Q:(Bool×A1×A6)→Prop}
   (hQ:∀ Z Y,Rep (d.ctx adr) m Z o1 Y→Q (true,Z,Y)):JV o0 o o1 o3 o4 o2 Q:=by
 have hn:=W.n
 have h1:0<(d.ctx adr).n:=Nat.mul_pos (by have:=h.R; omega) (by have:=h.C; omega)
 unfold JV
 have hlen:=J.len
 rw [hlen]
 refine BT (fun j (x:A1×Int×A6)=>∃ (k:Nat) (a0:A1) (a2:A6),x=(a0,(k:Int),a2)∧k+j=(d.ctx adr).n∧Rep (d.ctx adr) m a0 o1 a2) (m0:=(d.ctx adr).n) ⟨0,o0,o2,rfl,by omega,hp⟩ ?_
 rintro j _ next ⟨k,a0,a2,rfl,hkj,U⟩ hnext
 show AD (decide ((k:Int)<((d.ctx adr).n:Int))) _ _
 refine A0 (fun hk=>?_) (fun hk=>?_)
 · have D:k<(d.ctx adr).n:=by omega
   obtain ⟨x,hx,hw⟩:=J.wk k D
   refine A9 (by omega) (J.get D) (D4 hx (pD U D ?_))
   rw [hw.at_,hw.out]
   refine AC (by simp) (ZZ U ?_)
   rw [if_pos ⟨by omega,by omega⟩,Int.toNat_natCast]
   refine AC (by simp) ?_
   refine BT (fun j (x:A1×Int×A6)=>∃ (t:Nat) (b0:A1) (b2:A6),x=(b0,(t:Int),b2)∧t+j=(d.ctx adr).n∧Rep (d.ctx adr) m b0 o1 b2) (m0:=(d.ctx adr).n) ⟨0,a0,a2,rfl,by omega,U⟩ ?_
   rintro j2 _ next2 ⟨t,b0,b2,rfl,htj,hb⟩ hnext2
   show AD (decide ((t:Int)<((d.ctx adr).n:Int))) _ _
   refine A0 (fun ht=>?_) (fun ht=>?_)
   · have V:t<(d.ctx adr).n:=by omega
     have hpl:=aI D V
     have h2:k*(d.ctx adr).n+t<64*64:=by have:(d.ctx adr).n*(d.ctx adr).n≤64*64:=Nat.mul_le_mul hn hn; omega
     have e1:(k:Int)*((d.ctx adr).n:Int)=((k*(d.ctx adr).n:Nat):Int):=by simp
     have e:A7 (A7 ((k:Int)*((d.ctx adr).n:Int))+(t:Int))=((k*(d.ctx adr).n+t:Nat):Int):=by
      rw [e1,AJ (x:=((k*(d.ctx adr).n:Nat):Int)) (by omega) (by omega),AJ (by omega) (by omega)]; simp
     rw [e]
     refine A9 (by omega) (x:=some (rb (k*(d.ctx adr).n+t))) (by rw [J.bs,Int.toNat_natCast,List.getElem?_map,List.getElem?_range hpl]; rfl) ?_
     refine uE W hb D V fun e0 e2 he _=>mL J D V (AC (by simp) ?_)
     have ew:A7 ((t:Int)+1)=((t+1:Nat):Int):=by rw [AJ (by omega) (by omega)]; simp
     rw [ew]
     exact hnext2 (j2 - 1) _ (by omega) ⟨t+1,e0,e2,rfl,by omega,he⟩
   · have ew:A7 ((k:Int)+1)=((k+1:Nat):Int):=by rw [AJ (by omega) (by omega)]; simp
     rw [ew]
     exact hnext (j - 1) _ (by omega) ⟨k+1,b0,b2,rfl,by omega,hb⟩
 · obtain ⟨zs,O,G⟩:=AaD h m
   refine wK h U O G (sH h J O G (aC W U (wH W J (AY (by simp) ?_))))
   unfold DW
   rw [U.S,J.S]
   refine AY (by simp) (pK U hs (AaE W h1 J hs (AY (by simp) ?_)))
   refine bZ h U zs O G.inc (kF h J O G (lK (by have:=G.len; omega) rfl (AY rfl (nW sI (AY (by simp) ?_)))))
   rw [beq_self_eq_true]
   exact hQ _ _ U
theorem iD (a0:HX) (a1:GF) (h0:TK a0):NQ a0 a1 (fun r=>r=true):=by
 unfold NQ
 refine AbU h0 fun d hd hR hC hm=>?_
 have hR1:=hd.R
 have hC1:=hd.C
 have hn16:d.R*d.C≤4*4:=Nat.mul_le_mul hR hC
 have hn1:1≤d.R*d.C:=Nat.mul_pos (by omega) (by omega)
 refine mH hd fun S D bk hS h hc V=>Ac0 (adr:=fun i=>D.getD i 0) hd hS h fun ra rb o q3 q4 hrr=>AC rfl (AC rfl ?_)
 have Z:Rk ((d.wS S).ctx fun i=>D.getD i 0):=zY h _
 have W:RkR ((d.wS S).ctx fun i=>D.getD i 0):=AdA h _
 have hg0:=cC h fun i=>D.getD i 0
 have Y:=kA h fun i=>D.getD i 0
 have hNb:aB ((d.wS S).ctx fun i=>D.getD i 0) (init (d.wS S))≤1000000000:=by
   rw [wD h]
   have hSl:S.length≤7:=by have:=h.seg.len; simp only [Data.wS] at this; omega
   have:2*(d.R*d.C)*S.length≤2*16*7:=Nat.mul_le_mul (by omega) hSl
   show 2*(d.R*d.C)*S.length≤_
   omega
 have O:=fun {m:MS} {U:A1} {J:A2} {b2:A6} {b3:A4} {b4:AA} {Q:(Bool×A1×A6)→Prop} (hl:Live ((d.wS S).ctx fun i=>D.getD i 0) (aB ((d.wS S).ctx fun i=>D.getD i 0) (init (d.wS S))) m) (hp:Rep ((d.wS S).ctx fun i=>D.getD i 0) m U J b2) (hr:RepR ((d.wS S).ctx fun i=>D.getD i 0) ra rb m o b3 b4) (hQ:∀ o0' o2',Rep ((d.wS S).ctx fun i=>D.getD i 0) m o0' J o2'→Q (true,o0',o2'))=>
   AaF h hc hp hr (by have:=hl.totN; omega) hQ
 have hcn:((d.wS S).ctx fun i=>D.getD i 0).n=d.R*d.C:=rfl
 generalize ((d.wS S).ctx fun i=>D.getD i 0)=c at hc V hrr Z W hg0 Y O hcn
 refine O Y V hrr fun a0 a2 ha=>AC rfl ?_
 have ern:((d.R:Int)*(d.C:Int))=((d.R*d.C:Nat):Int):=by simp
 have ewn:A7 (A7 (d.p.R*d.p.C)+1)=((d.R*d.C+1:Nat):Int):=by
   show A7 (A7 ((d.R:Int)*(d.C:Int))+1)=_
   rw [ern,AJ (x:=((d.R*d.C:Nat):Int)) (by omega) (by omega),AJ (by omega) (by omega)]; simp
 rw [ewn]
 refine wE ⟨by omega,by omega⟩ fun l hl=>?_
 have hl120:=hl.len
 refine CJ (fun x:A1×A2×A4×AA×A6=>∃ G U J b2 b3 b4,x=(U,J,b3,b4,b2)∧Rep c G U J b2∧RepR c ra rb G o b3 b4∧Live c (aB c (init (d.wS S))) G∧Good c G) ?_ fun k' hk'=>?_
 · rintro _ ⟨G,U,J,b2,b3,b4,rfl,g1,g2,g3,g4⟩
   refine wC (AY rfl (O g3 g1 g2 fun e0 e2 he=>AY rfl (mB hc Z he g4 fun f0 f1 f2 hf _=>?_)))
   have ha:G.act c { Kind:=0,A:=0,B:=0,K:=0 }=(false,G):=rfl
   rw [ha] at hf ⊢
   refine AY rfl ?_
   unfold CS
   refine YC hf (AY (by simp) (AY rfl (ZZ hf ?_)))
   rw [if_neg (by omega)]
   refine AY rfl ?_
   unfold D6
   refine dY hf (by omega) ?_
   unfold HG
   rfl
 · refine BT (fun j (x:A1×Int×A2×A4×AA×A6)=>∃ (i:Nat) (G:MS) (U:A1) (J:A2) (b2:A6) (b3:A4) (b4:AA),x=(U,(i:Int),J,b3,b4,b2)∧i+j=l.length∧Rep c G U J b2∧RepR c ra rb G o b3 b4∧Live c (aB c (init (d.wS S))) G∧Good c G) (m0:=l.length) ⟨0,_,a0,bk,a2,q3,q4,rfl,by omega,ha,hrr,Y,hg0⟩ ?_
   rintro j _ next ⟨i,G,U,J,b2,b3,b4,rfl,hij,g1,g2,g3,g4⟩ hnext
   have fin:k' (U,J,b3,b4,b2):=hk' _ ⟨G,U,J,b2,b3,b4,rfl,g1,g2,g3,g4⟩
   refine A0 (fun hi=>A0 (fun _=>?_) fun _=>fin) fun _=>fin
   have hi':i<l.length:=by have:(i:Int)<(l.length:Int):=hi; omega
   refine AK hi' (AK hi' (mB hc Z g1 g4 (x:=l[i]) fun e0 e1 e2 he _=>AbZ hc W g2 g4 g3 (x:=l[i]) fun e3 e4 he'=>AC (by simp) ?_))
   have ew:A7 ((i:Int)+1)=((i+1:Nat):Int):=by rw [AJ (by omega) (by omega)]; simp
   rw [ew]
   exact hnext (j - 1) _ (by omega) ⟨i+1,_,e0,e1,e2,e3,e4,rfl,by omega,he,he',g3.acted hc g4 _,g4.acted hc _⟩
end Go.Proofs.YtbohadngdkjljaaGreat
