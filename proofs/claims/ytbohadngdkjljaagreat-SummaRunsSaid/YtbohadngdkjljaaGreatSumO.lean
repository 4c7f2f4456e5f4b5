import Derived.Test.YtbohadngdkjljaaGreatSumK
namespace Go.Proofs.YtbohadngdkjljaaGreat
open Go Go.Fw
set_option linter.unusedVariables false
set_option linter.unusedSimpArgs false
structure DOk0 (d:Data):Prop where
 r:1≤d.r∧d.r≤5
 cA:Canon d.n d.k d.A
 cB:Canon d.k d.q d.B
 cM:Canon d.n d.q d.M
 vA:∀ t∈d.A,GM t.Val
 vB:∀ t∈d.B,GM t.Val
 vM:∀ t∈d.M,GM t.Val
 R:1≤d.R∧d.R≤8
 C:1≤d.C∧d.C≤8
 room:1≤d.room∧d.room≤64
def Data.wS (d:Data) (S:List AV):Data:={ d with S:=S }
theorem SegSp.ok {d:Data} {S:List AV} (h:SegSp d.k d.R d.C d.k S) (G:S.length+1≤d.R+d.C):zU (d.wS S):=
 ⟨G,fun s D=>(h.row s D).1,fun s D=>(h.col s D).1,fun s D=>⟨(h.lo s D).1,by have:=(h.lo s D).2.1; show S[s].From≤S[s].To; omega,(h.lo s D).2.2⟩,h.top⟩
theorem DOk0.seg {d:Data} (h:DOk0 d) {S:List AV} (D:zU (d.wS S)):TH (d.wS S):=⟨h.r,h.cA,h.cB,h.cM,h.vA,h.vB,h.vM,h.R,h.C,h.room,D⟩
variable {d:Data}
theorem gF (h:DOk0 d) {Q:Int→Prop} (J:Q 0):EV d.p Q:=by
 have hR:=h.R
 have hC:=h.C
 have hr:=h.r
 have hm:=h.room
 unfold EV Data.p DR
 refine JX (AC (by simp; omega) ?_)
 refine PY ⟨h.cA.sml.1,h.cA.sml.2.1⟩ (AC (by rw [decide_eq_true h.cA.right]; rfl) ?_)
 refine PY ⟨h.cB.sml.1,h.cB.sml.2.1⟩ (AC (by rw [decide_eq_true h.cB.right]; rfl) ?_)
 refine PY ⟨h.cM.sml.1,h.cM.sml.2.1⟩ ?_
 rw [decide_eq_true h.cM.right]
 refine AC rfl (CB (fun e=>absurd rfl e) fun _=>CB (fun e=>absurd rfl e) fun _=>?_)
 show AD (d.q != d.q) _ _
 refine AC (by simp) ?_
 have D:∀ (a m:Int) {Q:Bool→Prop},1≤a→a≤m→Q true→FR a m Q:=fun a m Q O U G=>by
  unfold FR
  exact AU (by simpa using O) (by rw [decide_eq_true U]; exact G)
 exact D _ _ (by show (1:Int)≤(d.R:Int); omega) (by show (d.R:Int)≤8; omega) (AC rfl (D _ _ (by show (1:Int)≤(d.C:Int); omega) (by show (d.C:Int)≤8; omega) (AC rfl (D _ _ (by show (1:Int)≤(d.room:Int); omega) (by show (d.room:Int)≤64; omega) (AC rfl J)))))
theorem PJ {c i j:Nat} {Q:Int→Prop} (h:1≤c∧c≤8) (hi:i<8) (hj:j<c) (D:Q ((i*c+j:Nat):Int)):IA (c:Int) (i:Int) (j:Int) Q:=by
 unfold IA
 have hb:i*c≤8*8:=Nat.mul_le_mul (by omega) h.2
 have e:((i:Int)*(c:Int))=((i*c:Nat):Int):=by simp
 refine aJ (AC (by rw [decide_eq_true (show NA (c:Int) from ⟨by omega,by omega⟩)]; rfl) (AC (by simp) (AC (by simp; omega) (AC (by simp) (AC (by simp; omega) ?_)))))
 rw [e,AH (x:=((i*c:Nat):Int)) (by omega) (by omega),AH (by omega) (by omega)]
 simpa using D
def mK (d:Data) (w s j:Nat):AM:={ Kind:=6,From:=((w / d.C*d.C+w % d.C:Nat):Int),To:=((w / d.C*d.C+j:Nat):Int),Seq:=0,Round:=(s:Int),Vec:={ N:=0,Items:=[] },Sums:=[],Triples:=VZ d (w / d.C) (BJ d.S s) (BJ d.S (s+1)),N:=0,Over:=false }
def mL (d:Data) (w s i:Nat):AM:={ Kind:=7,From:=((w / d.C*d.C+w % d.C:Nat):Int),To:=((i*d.C+w % d.C:Nat):Int),Seq:=0,Round:=(s:Int),Vec:={ N:=0,Items:=[] },Sums:=[],Triples:=XE d (w % d.C) (BJ d.S s) (BJ d.S (s+1)),N:=0,Over:=false }
def NC (d:Data) (w s:Nat):List AM:=if (d.S.getD s default).Col=((w % d.C:Nat):Int) then (List.range d.C).map (mK d w s) else []
def QU (d:Data) (w s:Nat):List AM:=if (d.S.getD s default).Row=((w / d.C:Nat):Int) then (List.range d.R).map (mL d w s) else []
def QV (d:Data) (w t:Nat):List AM:=(List.range t).flatMap fun s=>NC d w s++QU d w s
theorem cK (d:Data) (w t:Nat):QV d w (t+1)=QV d w t++(NC d w t++QU d w t):=by unfold QV; rw [List.range_succ,List.flatMap_append,List.flatMap_singleton]
theorem pK (h:TH d) (w s:Nat):(NC d w s++QU d w s).length≤16:=by
 have hR:=h.R
 have hC:=h.C
 rw [List.length_append]
 unfold NC QU
 split <;> split <;> simp <;> omega
theorem aR (h:TH d) (w:Nat):∀ t,(QV d w t).length≤t*16
 | 0=>by simp [QV]
 | t+1=>by rw [cK,List.length_append]; have:=aR h w t; have:=pK h w t; omega
def w0 (d:Data) (w:Nat) (out:List AM):AF:={ i:=((w / d.C:Nat):Int),j:=((w % d.C:Nat):Int),mask:=B0 (d.rl (w / d.C+1) - d.rl (w / d.C)) (d.cl (w % d.C+1) - d.cl (w % d.C)) (kB d (w / d.C) (w % d.C)),out:=out,parts:=[],at_:=0,has:=[] }
abbrev pk (x:AF) (k:Int):Int×Int×Int×Int×(List Int)×(List Int)×(List Int)×(List AM)×(List (BE×(List A1)))×Int×(List AB)×Int:=
 (x.i,x.j,x.mask.Rows,x.mask.Cols,x.mask.Start,x.mask.Col,x.mask.Val,x.out,x.parts,x.at_,x.has,k)
theorem AbL (h:TH d) {w s:Nat} (hw:w<d.R*d.C) (hs:s<d.S.length) {ws:List (Option Nat)} {bs:List ((Int×Int)×Option Nat)} {bk:A2} {out:List AM} (hl:out.length≤10000) {Q:AF→Prop}
   (hQ:Q (w0 d w (out++(NC d w s++QU d w s)))):FO { p:=d.p,stages:=d.S,workers:=ws,boxes:=bs } (w0 d w out) bk (s:Int) d.S[s] Q:=by
 have hR:=h.R
 have hC:=h.C
 have hi:w / d.C<d.R:=Nat.div_lt_of_lt_mul (by rw [Nat.mul_comm]; exact hw)
 have hj:w % d.C<d.C:=Nat.mod_lt _ (by omega)
 have b1:=aO h (w / d.C)
 have b2:=aP h (w % d.C)
 have hlo:=h.seg.lo s hs
 have hb:=aQ h s (by omega)
 have he:=UA (d:=d) hs
 have O:d.S.getD s default=d.S[s]:=by simp [List.getD_eq_getElem?_getD,hs]
 obtain ⟨eA,U,_⟩:=DJ h.cA (l:=d.rl (w / d.C)) (u:=d.rl (w / d.C+1)) (c:=d.S[s].From) (d:=d.S[s].To) b1.1 b1.2.1 b1.2.2 (by omega) (by omega) (by omega)
 obtain ⟨eB,Y,_⟩:=DJ h.cB (l:=d.S[s].From) (u:=d.S[s].To) (c:=d.cl (w % d.C)) (d:=d.cl (w % d.C+1)) (by omega) (by omega) (by omega) b2.1 b2.2.1 b2.2.2
 have nC:∀ {n:Int} {k i:Nat} {Q:Int×Int→Prop},k≤8→i<k→Q (BU n k i,BU n k ((i+1:Nat):Int))→HX n (k:Int) (i:Int) Q:=fun {n k i Q} hk hi Z=>by
   unfold HX
   refine HU ?_
   rw [AH (by omega) (by omega)]
   exact HU (by simpa using Z)
 unfold FO
 -- the J half
 have J:∀ (G:List AM),G.length≤10100→Q (w0 d w (G++QU d w s))→∀ {X:Prop},True→(AD (d.S[s].Row==((w / d.C:Nat):Int)) (HX d.q (d.C:Int) ((w % d.C:Nat):Int) fun r950=>LC (B0 d.k d.q d.B) (d.S[s].From,d.S[s].To) r950 fun r954=>LW r954 fun r971=>
     B2 (fun (t:Int×Int×Int×Int×(List Int)×(List Int)×(List Int)×(List AM)×(List (BE×(List A1)))×Int×(List AB)×Int) (next:(Int×Int×Int×Int×(List Int)×(List Int)×(List Int)×(List AM)×(List (BE×(List A1)))×Int×(List AB)×Int)→Prop)=>match t with | (s1125,s1126,s1127,s1128,s1129,s1133,s1137,s1141,s1145,s1146,s1147,s1151)=>AD (decide (s1151<(d.R:Int))) (CC d.p (s:Int) bk ({ i:=s1125,j:=s1126,mask:=({ Rows:=s1127,Cols:=s1128,Start:=s1129,Col:=s1133,Val:=s1137 }:Rows),out:=s1141,parts:=s1145,at_:=s1146,has:=s1147 }:AF) 7 s1151 s1126 r971 fun D=>next (D.i,D.j,D.mask.Rows,D.mask.Cols,D.mask.Start,D.mask.Col,D.mask.Val,D.out,D.parts,D.at_,D.has,A7 (s1151+1))) (Q ({ i:=s1125,j:=s1126,mask:=({ Rows:=s1127,Cols:=s1128,Start:=s1129,Col:=s1133,Val:=s1137 }:Rows),out:=s1141,parts:=s1145,at_:=s1146,has:=s1147 }:AF))) (pk (w0 d w G) 0)) (Q (w0 d w G))):=by
   intro G hl2 Z X _
   refine BB (fun e=>?_) (fun e=>?_)
   · refine nC hC.2 hj ?_
     refine TZ h.cB.sml (D4 h.cB) h.cB ?_
     have eB':bS d.k d.q d.B (d.S[s].From,d.S[s].To) (BU d.q d.C ((w % d.C:Nat):Int),BU d.q d.C ((w % d.C+1:Nat):Int))=_:=eB
     rw [eB']
     refine VL Y.sml (D4 Y) Y ?_
     have V:QU d w s=(List.range d.R).map (mL d w s):=by unfold QU; rw [O,if_pos e]
     rw [V] at Z
     refine BV (fun j (t:Int×Int×Int×Int×(List Int)×(List Int)×(List Int)×(List AM)×(List (BE×(List A1)))×Int×(List AB)×Int)=>∃ a:Nat,t=pk (w0 d w (G++(List.range a).map (mL d w s))) (a:Int)∧a+j=d.R) (m0:=d.R) ⟨0,by simp,by omega⟩ ?_
     rintro j _ next ⟨a,rfl,haj⟩ hnext
     show AD (decide ((a:Int)<(d.R:Int))) _ _
     refine A0 (fun ha=>?_) (fun ha=>?_)
     · show CC d.p (s:Int) bk (w0 d w (G++(List.range a).map (mL d w s))) 7 (a:Int) ((w % d.C:Nat):Int) _ _
       unfold CC
       show IA (d.C:Int) ((w / d.C:Nat):Int) ((w % d.C:Nat):Int) _
       refine PJ hC (by omega) hj ?_
       show IA (d.C:Int) (a:Int) ((w % d.C:Nat):Int) _
       refine PJ hC (by omega) hj (AQ (by show ((G++(List.range a).map (mL d w s)).length+1)*136≤_; simp; omega) ?_)
       refine hnext (j - 1) _ (by omega) ⟨a+1,?_,by omega⟩
       have ew:A7 ((a:Int)+1)=((a+1:Nat):Int):=by rw [AH (by omega) (by omega)]; simp
       rw [ew,List.range_succ,List.map_append,←List.append_assoc]
       have ef:([mL d w s a]:List AM)=[{ Kind:=7,From:=((w / d.C*d.C+w % d.C:Nat):Int),To:=((a*d.C+w % d.C:Nat):Int),Seq:=0,Round:=(s:Int),Vec:={ N:=0,Items:=[] },Sums:=[],Triples:=HI d.S[s].From d.S[s].To (d.cl (w % d.C)) (d.cl (w % d.C+1)) d.B,N:=0,Over:=false }]:=by
        unfold mL XE; rw [he,hlo.1]
       rw [List.map_singleton,ef]
       rfl
     · have:a=d.R:=by omega
       subst this
       exact Z
   · have V:QU d w s=[]:=by unfold QU; rw [O,if_neg e]
     rw [V,List.append_nil] at Z
     exact Z
 unfold DR
 refine BB (fun e=>?_) (fun e=>?_)
 · have e:d.S[s].Col=((w % d.C:Nat):Int):=e
   show HX d.n (d.R:Int) ((w / d.C:Nat):Int) _
   refine nC hR.2 hi ?_
   show LC (B0 d.n d.k d.A) _ _ _
   refine TZ h.cA.sml (D4 h.cA) h.cA ?_
   have eA':bS d.n d.k d.A (BU d.n d.R ((w / d.C:Nat):Int),BU d.n d.R ((w / d.C+1:Nat):Int)) (d.S[s].From,d.S[s].To)=_:=eA
   rw [eA']
   refine VL U.sml (D4 U) U ?_
   have W:NC d w s=(List.range d.C).map (mK d w s):=by unfold NC; rw [O,if_pos e]
   rw [W,←List.append_assoc] at hQ
   refine BV (fun j (t:Int×Int×Int×Int×(List Int)×(List Int)×(List Int)×(List AM)×(List (BE×(List A1)))×Int×(List AB)×Int)=>∃ a:Nat,t=pk (w0 d w (out++(List.range a).map (mK d w s))) (a:Int)∧a+j=d.C) (m0:=d.C) ⟨0,by simp,by omega⟩ ?_
   rintro j _ next ⟨a,rfl,haj⟩ hnext
   show AD (decide ((a:Int)<(d.C:Int))) _ _
   refine A0 (fun ha=>?_) (fun ha=>?_)
   · show CC d.p (s:Int) bk (w0 d w (out++(List.range a).map (mK d w s))) 6 ((w / d.C:Nat):Int) (a:Int) _ _
     unfold CC
     show IA (d.C:Int) ((w / d.C:Nat):Int) ((w % d.C:Nat):Int) _
     refine PJ hC (by omega) hj ?_
     show IA (d.C:Int) ((w / d.C:Nat):Int) (a:Int) _
     refine PJ hC (by omega) (by omega) (AQ (by show ((out++(List.range a).map (mK d w s)).length+1)*136≤_; simp; omega) ?_)
     refine hnext (j - 1) _ (by omega) ⟨a+1,?_,by omega⟩
     have ew:A7 ((a:Int)+1)=((a+1:Nat):Int):=by rw [AH (by omega) (by omega)]; simp
     rw [ew,List.range_succ,List.map_append,←List.append_assoc]
     have ef:([mK d w s a]:List AM)=[{ Kind:=6,From:=((w / d.C*d.C+w % d.C:Nat):Int),To:=((w / d.C*d.C+a:Nat):Int),Seq:=0,Round:=(s:Int),Vec:={ N:=0,Items:=[] },Sums:=[],Triples:=HI (d.rl (w / d.C)) (d.rl (w / d.C+1)) d.S[s].From d.S[s].To d.A,N:=0,Over:=false }]:=by
       unfold mK VZ; rw [he,hlo.1]
     rw [List.map_singleton,ef]
     rfl
   · have:a=d.C:=by omega
     subst this
     exact J _ (by simp; omega) hQ (X:=True) trivial
 · have e:¬d.S[s].Col=((w % d.C:Nat):Int):=e
   have W:NC d w s=[]:=by unfold NC; rw [O,if_neg e]
   rw [W,List.nil_append] at hQ
   exact J _ (by omega) hQ (X:=True) trivial
variable {d:Data}
def init (d:Data):MS:={ w:=fun k=>⟨QV d k d.S.length,fun _=>false,fun _=>false,0⟩,bx:=fun _ _=>⟨d.room,[],[],0⟩ }
theorem Ad5 (h:TH d) {adr:Nat→Nat} (D:∀ i j,i<d.R*d.C→j<d.R*d.C→adr i=adr j→i=j):X3 (d.ctx adr):=by
 have G:=h.R
 have J:=h.C
 have hl:=h.seg.len
 exact ⟨Nat.mul_le_mul G.2 J.2,rfl,h.room.1,h.room.2,by show d.S.length≤64; omega,D⟩
theorem TC {C i j:Nat} (h:j<C):(i*C+j) / C=i∧(i*C+j) % C=j:=by
 have D:0<C:=by omega
 constructor
 · rw [Nat.mul_comm,Nat.mul_add_div D,Nat.div_eq_of_lt h]; omega
 · rw [Nat.mul_comm,Nat.mul_add_mod,Nat.mod_eq_of_lt h]
theorem gG {R C i j:Nat} (hi:i<R) (hj:j<C):i*C+j<R*C:=by
 have:(i+1)*C≤R*C:=Nat.mul_le_mul_right _ (by omega)
 rw [Nat.succ_mul] at this; omega
theorem AbM {w t:Nat} {f:AM} (h:f∈QV d w t):∃ s,s<t∧(((d.S.getD s default).Col=((w % d.C:Nat):Int)∧∃ j,j<d.C∧f=mK d w s j)∨(d.S.getD s default).Row=((w / d.C:Nat):Int)∧∃ i,i<d.R∧f=mL d w s i):=by
 unfold QV at h
 obtain ⟨s,J,D⟩:=List.mem_flatMap.1 h
 refine ⟨s,List.mem_range.1 J,?_⟩
 rcases List.mem_append.1 D with D | D
 · unfold NC at D
   split at D
   · rename_i e
     obtain ⟨j,G,rfl⟩:=List.mem_map.1 D
     exact .inl ⟨e,j,List.mem_range.1 G,rfl⟩
   · exact absurd D (List.not_mem_nil)
 · unfold QU at D
   split at D
   · rename_i e
     obtain ⟨j,G,rfl⟩:=List.mem_map.1 D
     exact .inr ⟨e,j,List.mem_range.1 G,rfl⟩
   · exact absurd D (List.not_mem_nil)
theorem AbN (h:TH d) (i:Nat) (a b:Int):(VZ d i a b).length≤65536:=by
 have:=h.cA.len
 unfold VZ HI
 rw [List.length_map]
 have:=List.length_filter_le (fun t:A1=>decide ((d.rl i≤t.Row∧t.Row<d.rl (i+1))∧(a≤t.Col∧t.Col<b))) d.A
 omega
theorem AbO (h:TH d) (i:Nat) (a b:Int):(XE d i a b).length≤65536:=by
 have:=h.cB.len
 unfold XE HI
 rw [List.length_map]
 have:=List.length_filter_le (fun t:A1=>decide ((a≤t.Row∧t.Row<b)∧(d.cl i≤t.Col∧t.Col<d.cl (i+1)))) d.B
 omega
theorem cL (h:TH d) (adr:Nat→Nat):Good (d.ctx adr) (init d):=by
 have hR:=h.R
 have hC:=h.C
 have hl:=h.seg.len
 refine ⟨fun k hk f U=>?_,fun f t _ _ g G=>absurd G (List.not_mem_nil),fun f t _ _=>?_,fun f t _ _=>⟨rfl,Nat.zero_le _⟩,fun f t _ _ i g G=>by cases G⟩
 · have hi:k / d.C<d.R:=Nat.div_lt_of_lt_mul (by rw [Nat.mul_comm]; exact hk)
   have J:k % d.C<d.C:=Nat.mod_lt _ (by omega)
   obtain ⟨s,O,⟨_,j,hj',rfl⟩ | ⟨_,i,D,rfl⟩⟩:=AbM U
   · have hp:=TC (i:=k / d.C) hj'
     refine ⟨k / d.C*d.C+j,s,gG hi hj',O,rfl,rfl,⟨rfl,rfl,?_⟩,.inl ⟨rfl,?_⟩⟩
     · have:=AbN h (k / d.C) (BJ d.S s) (BJ d.S (s+1)); show (VZ d _ _ _).length≤_; omega
     · show VZ d (k / d.C) _ _=VZ d ((k / d.C*d.C+j) / d.C) _ _
       rw [hp.1]
   · have hp:=TC (i:=i) J
     refine ⟨i*d.C+k % d.C,s,gG D J,O,rfl,rfl,⟨rfl,rfl,?_⟩,.inr ⟨rfl,?_⟩⟩
     · have:=AbO h (k % d.C) (BJ d.S s) (BJ d.S (s+1)); show (XE d _ _ _).length≤_; omega
     · show XE d (k % d.C) _ _=XE d ((i*d.C+k % d.C) % d.C) _ _
       rw [hp.2]
 · have:=aR h f d.S.length
   show 0+(QV d f d.S.length).length≤_
   omega
theorem kF (h:TH d) (adr:Nat→Nat):Live (d.ctx adr) (iH (d.ctx adr) (init d)) (init d):=by
 refine ⟨fun f t _ _=>BInv.empty (d.ctx adr),?_⟩
 · have e:OT (d.ctx adr) (init d)=0:=by
    unfold OT
    have D:aM (fun f=>aM (fun t=>((init d).bx f t).fs.length) (d.ctx adr).n) (d.ctx adr).n=aM (fun _=>0) (d.ctx adr).n:=KD fun i hi=>by
     have:aM (fun t=>((init d).bx i t).fs.length) (d.ctx adr).n=aM (fun _=>0) (d.ctx adr).n:=KD fun j hj=>rfl
     rw [this,TA]; simp
    rw [D,TA]; simp
   omega
theorem kG (h:TH d) (k:Nat):IV d (k / d.C) (k % d.C) 0=[]:=by
 unfold IV FQ
 rw [List.filterMap_eq_nil_iff]
 intro t U
 have D:=aO h (k / d.C)
 have b2:=aP h (k % d.C)
 obtain ⟨_,O,_⟩:=DJ h.cA (l:=d.rl (k / d.C)) (u:=d.rl (k / d.C+1)) (c:=0) (d:=0) D.1 D.2.1 D.2.2 (by omega) (by omega) h.cA.c0
 obtain ⟨_,J,_⟩:=DJ h.cM (l:=d.rl (k / d.C)) (u:=d.rl (k / d.C+1)) (c:=d.cl (k % d.C)) (d:=d.cl (k % d.C+1)) D.1 D.2.1 D.2.2 b2.1 b2.2.1 b2.2.2
 have G:=J.inn t U
 unfold RK at G
 unfold G1
 show (KY d.r (VZ d (k / d.C) 0 0) _ _ _).map _=none
 unfold VZ
 rw [T4 O G.1]
 rfl
theorem zX (h:TH d) {D:List Nat} {O:A2} (U:D.length=d.R*d.C) (Y:∀ k (hk:k<D.length),BK D[k] O=some (w0 d k (QV d k d.S.length))) :
   Rep (d.ctx fun i=>D.getD i 0) (init d) { p:=d.p,stages:=d.S,workers:=D.map some,boxes:=[] } O []:=by
 refine ⟨rfl,rfl,?_,fun k hk=>?_,fun f t _=>rfl,fun q G=>(by cases G),fun f t b W=>(by cases W),fun q q' b G _=>(by cases G),List.nodup_nil,fun q G=>(by cases G)⟩
 · refine List.ext_getElem (by simp [Data.ctx,U]) fun i V h2=>?_
   simp only [List.length_map] at V
   simp [Data.ctx,List.getD_eq_getElem?_getD,V]
 · have J:k<D.length:=by rw [U]; exact hk
   have e:D.getD k 0=D[k]:=by simp [List.getD_eq_getElem?_getD,J]
   refine ⟨w0 d k (QV d k d.S.length),?_,?_⟩
   · show BK (D.getD k 0) O=some _
     rw [e]; exact Y k J
   · have Z:=kG h k
     exact ⟨rfl,rfl,rfl,rfl,rfl,Nat.zero_le _,Z.symm,fun s _=>rfl,fun s _=>rfl⟩
theorem zY (h:TH d) {i j:Nat} (hi:i<d.R) (hj:j<d.C) {Q:Rows→Prop} (U:Q (B0 (d.rl (i+1) - d.rl i) (d.cl (j+1) - d.cl j) (kB d i j))):PR (B0 d.n d.q d.M) (d.R:Int) (d.C:Int) (i:Int) (j:Int) Q:=by
 have hR:=h.R
 have hC:=h.C
 have V:dJ (d.R:Int) (d.C:Int) (i:Int) (j:Int):=⟨⟨⟨by omega,by omega⟩,by omega,by omega⟩,⟨by omega,by omega⟩,by omega,by omega⟩
 refine mC h.cM ?_
 have D:=aO h i
 have b2:=aP h j
 obtain ⟨O,_,_⟩:=DJ h.cM (l:=d.rl i) (u:=d.rl (i+1)) (c:=d.cl j) (d:=d.cl (j+1)) D.1 D.2.1 D.2.2 b2.1 b2.2.1 b2.2.2
 unfold vP
 rw [if_pos V]
 have G:BU d.n (d.R:Int) ((i:Int)+1)=d.rl (i+1):=by unfold Data.rl; simp
 have J:BU d.q (d.C:Int) ((j:Int)+1)=d.cl (j+1):=by unfold Data.cl; simp
 rw [G,J]
 show Q (bS d.n d.q d.M (d.rl i,d.rl (i+1)) (d.cl j,d.cl (j+1)))
 rw [O]
 exact U
theorem mM (U:DOk0 d) {o2:A8} {Q0:(Int×A2)→Prop} {Q1:(Int×A2×A3)→Prop}
   (hQ:∀ (S:List AV) (D:List Nat) O,SegSp d.k d.R d.C d.k S→TH (d.wS S)→X3 ((d.wS S).ctx fun i=>D.getD i 0)→Rep ((d.wS S).ctx fun i=>D.getD i 0) (init (d.wS S)) { p:=d.p,stages:=S,workers:=D.map some,boxes:=[] } O []→Q1 (0,O,{ p:=d.p,stages:=S,workers:=D.map some,boxes:=[] })) :
   EP [] o2 d.p Q0 Q1:=by
 have hR:=U.R
 have hC:=U.C
 have hn:d.R*d.C≤64:=Nat.mul_le_mul hR.2 hC.2
 unfold EP
 refine gF U (AC rfl ?_)
 show KR d.k (d.R:Int) (d.C:Int) _
 refine pJ ⟨U.cA.c0,U.cA.c1⟩ hR hC fun S hS hSl=>?_
 have h:TH (d.wS S):=U.seg (hS.ok hSl)
 have ern:((d.R:Int)*(d.C:Int))=((d.R*d.C:Nat):Int):=by simp
 have ewn:A7 ((d.R:Int)*(d.C:Int))=((d.R*d.C:Nat):Int):=by rw [ern,AH (by omega) (by omega)]
 refine BV (fun j (x:List (Option Nat)×Int×A2)=>∃ (D:List Nat) (O:A2),x=(D.map some,(D.length:Int),O)∧D.length+j=d.R*d.C∧D.Nodup∧∀ k (hk:k<D.length),BK D[k] O=some (w0 (d.wS S) k (QV (d.wS S) k S.length))) (m0:=d.R*d.C) ⟨[],[],rfl,by simp,List.nodup_nil,fun k hk=>by simp at hk⟩ ?_
 rintro j _ next ⟨D,O,rfl,hj,W,hw⟩ hnext
 show AD (decide ((D.length:Int)<A7 ((d.R:Int)*(d.C:Int)))) _ _
 rw [ewn]
 refine A0 (fun hk=>?_) (fun hk=>?_)
 · have G:D.length<d.R*d.C:=by omega
   generalize hkk:D.length=k at G hj hk
   have hi:k / d.C<d.R:=Nat.div_lt_of_lt_mul (by rw [Nat.mul_comm]; exact G)
   have hjc:k % d.C<d.C:=Nat.mod_lt _ (by omega)
   have Y:NA (d.C:Int):=⟨by omega,by omega⟩
   have Z:k<8*d.C:=Nat.lt_of_lt_of_le G (Nat.mul_le_mul_right _ hR.2)
   show SU (d.C:Int) (k:Int) _
   refine dK Y Z ?_
   show V7 (d.C:Int) (k:Int) _
   refine pD Y Z ?_
   show PR (B0 d.n d.q d.M) (d.R:Int) (d.C:Int) ((k / d.C:Nat):Int) ((k % d.C:Nat):Int) _
   refine zY (d:=d.wS S) h hi hjc ?_
   refine BV (fun j (t:Int×Int×Int×Int×(List Int)×(List Int)×(List Int)×(List AM)×(List (BE×(List A1)))×Int×(List AB)×Int)=>∃ s:Nat,t=pk (w0 (d.wS S) k (QV (d.wS S) k s)) (s:Int)∧s+j=S.length) (m0:=S.length) ⟨0,rfl,by omega⟩ ?_
   rintro j2 _ next2 ⟨s,rfl,hsj⟩ hnext2
   show AD (decide ((s:Int)<(S.length:Int))) _ _
   refine A0 (fun hs=>?_) (fun hs=>?_)
   · have V:s<S.length:=by omega
     refine AJ V ?_
     have hlen:=aR h k s
     refine AbL (d:=d.wS S) h (w:=k) (s:=s) G V (out:=QV (d.wS S) k s) (by omega) ?_
     have ew:A7 ((s:Int)+1)=((s+1:Nat):Int):=by rw [AH (by omega) (by omega)]; simp
     rw [ew,←cK]
     exact hnext2 (j2 - 1) _ (by omega) ⟨s+1,rfl,by omega⟩
   · have hse:s=S.length:=by omega
     subst hse
     intro b hb
     refine AQ (by simp; omega) ?_
     have ew:A7 ((k:Int)+1)=(((D++[b]).length:Nat):Int):=by rw [AH (by omega) (by omega)]; simp [hkk]
     rw [ew]
     have J:∀ i (hi:i<D.length),D[i]≠b:=fun i hi e=>by have:=hw i hi; rw [e,hb] at this; cases this
     refine hnext (j - 1) _ (by omega) ⟨D++[b],_,by rw [List.map_append]; rfl,by simp; omega,?_,fun i hi=>?_⟩
     · rw [List.nodup_append]
       refine ⟨W,(by simp),fun a ha c hc e=>?_⟩
       rw [List.mem_singleton] at hc
       obtain ⟨i,hi,rfl⟩:=List.getElem_of_mem ha
       exact J i hi (e.trans hc)
     · simp only [List.length_append,List.length_singleton] at hi
       by_cases e:i<D.length
       · rw [List.getElem_append_left e,VX (J i e)]
         exact hw i e
       · have ei:i=k:=by omega
         subst ei
         have:(D++[b])[i]'(by simp; omega)=b:=by rw [List.getElem_append_right (by omega)]; simp
         rw [this,QS]
 · have hl:D.length=d.R*d.C:=by omega
   have hinj:∀ i j,i<d.R*d.C→j<d.R*d.C→D.getD i 0=D.getD j 0→i=j:=fun i j hi hj e=>by
     have e1:D.getD i 0=D[i]'(by omega):=by simp [List.getD_eq_getElem?_getD,show i<D.length by omega]
     have e2:D.getD j 0=D[j]'(by omega):=by simp [List.getD_eq_getElem?_getD,show j<D.length by omega]
     rw [e1,e2] at e
     exact (List.getElem_inj W).1 e
   exact hQ S D O hS h (Ad5 h hinj) (zX (d:=d.wS S) h hl hw)
variable {d:Data} {c:T8} {m:MS} {N:Nat}
def XF (c:T8) (l:List EI) (m:MS):MS:=l.foldl (fun m x=>(m.act c x).2) m
theorem kH (c:T8) (l:List EI) (x:EI) (m:MS):XF c (l++[x]) m=((XF c l m).act c x).2:=by simp [XF]
theorem cN (D:X3 c):∀ (l:List EI) {m:MS},Live c N m→Good c m→Live c N (XF c l m)∧Good c (XF c l m)
 | [],_,h,g=>⟨h,g⟩
 | x :: l,m,h,g=>cN D l (h.acted D g x) (g.acted D x)
abbrev AcD (o0:A3) (k:Int) (o1:A2) (o2:A8):A3×Int×A2×A8:=(o0,k,o1,o2)
theorem dL {l:List EI} (hl:l.length≤1048576) (h:∀ x∈l,dX x=true) {Q:Bool→Prop} (G:Q false):CG l Q:=by
 unfold CG DE
 refine DF l.length (by omega) (fun _=>True) trivial (fun i next hi _ D=>?_) (fun next _=>?_)
 · refine AU (by simp; omega) (AJ hi ?_)
   unfold OY
   refine aL ?_
   rw [h _ (List.getElem_mem hi)]
   exact AC rfl (D trivial)
 · exact AC (by simp) G
theorem gH {c:T8} {m:MS} (h:m.ended c=true):∀ j,UT c j m=m
 | 0=>rfl
 | j+1=>by unfold UT; rw [if_pos h]
theorem uF (h0:DOk0 d) {l:List EI} {w:Nat} (hl:l.length≤1048576) (hmv:∀ x∈l,dX x=true) (hw:w≤1048576) {Q:(Rows×Bool×Int)→Prop}
   (hQ:∀ (S:List AV) (D:List Nat) (U:A3) (V:A2) (b2:A8),SegSp d.k d.R d.C d.k S→TH (d.wS S)→X3 ((d.wS S).ctx fun i=>D.getD i 0) →
     Live ((d.wS S).ctx fun i=>D.getD i 0) (iH ((d.wS S).ctx fun i=>D.getD i 0) (init (d.wS S))) (XF ((d.wS S).ctx fun i=>D.getD i 0) l (init (d.wS S))) →
     Rep ((d.wS S).ctx fun i=>D.getD i 0) (UT ((d.wS S).ctx fun i=>D.getD i 0) w (XF ((d.wS S).ctx fun i=>D.getD i 0) l (init (d.wS S)))) U V b2 →
     CD U V fun r=>CI U V fun e=>Q (r.1,e,r.2)):G8 d.p l (w:Int) Q:=by
 unfold G8
 refine mM h0 fun S D bk hS h Z W=>?_
 have hQ:=fun a b e=>hQ S D a b e hS h Z
 have hrk:Rk ((d.wS S).ctx fun i=>D.getD i 0):=AcC h _
 have hg:Good ((d.wS S).ctx fun i=>D.getD i 0) (init (d.wS S)):=cL h _
 have hli:=kF h fun i=>D.getD i 0
 generalize ((d.wS S).ctx fun i=>D.getD i 0)=c at Z W hQ hrk hg hli
 refine AC rfl (AC (by simp; omega) (dL hl hmv (AC rfl (AC (by simp) (AC (by simp; omega) ?_)))))
 refine BV (fun j x=>∃ (i:Nat) (a0:A3) (a1:A2) (a2:A8),x=AcD a0 (i:Int) a1 a2∧i+j=l.length∧Rep c (XF c (l.take i) (init (d.wS S))) a0 a1 a2) (m0:=l.length) ⟨0,_,bk,[],rfl,by omega,W⟩ ?_
 rintro j _ next ⟨i,a0,a1,a2,rfl,hij,hr⟩ hnext
 show AD (decide ((i:Int)<(l.length:Int))) _ _
 obtain ⟨hlv,hgd⟩:=cN Z (l.take i) hli hg
 refine A0 (fun hi=>?_) (fun hi=>?_)
 · have hi':i<l.length:=by omega
   refine AJ hi' ?_
   refine zP Z hrk hr hgd (x:=l[i]) fun U V b2 hb _=>?_
   have ew:A7 ((i:Int)+1)=((i+1:Nat):Int):=by rw [AH (by omega) (by omega)]; simp
   rw [ew]
   exact hnext (j - 1) _ (by omega) ⟨i+1,U,V,b2,rfl,by omega,by rw [List.take_succ_eq_append_getElem hi',kH]; exact hb⟩
 · have hil:i=l.length:=by omega
   subst hil
   rw [List.take_length] at hr hlv hgd
   unfold DR
   refine BV (fun j x=>∃ (i:Nat) (O:MS) (a0:A3) (a1:A2) (a2:A8),x=AcD a0 (i:Int) a1 a2∧i+j=w∧Rep c O a0 a1 a2∧Good c O∧UT c j O=UT c w (XF c l (init (d.wS S)))) (m0:=w) ⟨0,_,_,a1,a2,rfl,by omega,hr,hgd,rfl⟩ ?_
   rintro j2 _ next2 ⟨i,O,U,V,b2,rfl,hij2,Y,hgm,G⟩ hnext2
   have fin:UT c j2 O=O→CD U V fun J=>CI U V fun r2752=>Q (J.1,r2752,J.2):=fun he=>by
     rw [he] at G
     refine hQ U V b2 hlv ?_
     rw [←G]; exact Y
   show AD (decide ((i:Int)<(w:Int))) _ _
   refine A0 (fun hi=>?_) (fun hi=>?_)
   · obtain ⟨j3,rfl⟩:∃ j3,j2=j3+1:=⟨j2 - 1,by omega⟩
     refine aN Z Y ?_
     cases he:O.ended c with
     | true=>exact AC rfl (fin (gH he _))
     | false=>
      refine AU rfl ?_
      refine jZ Z hrk Y hgm fun e0 e1 e2 hre _=>?_
      have ew:A7 ((i:Int)+1)=((i+1:Nat):Int):=by rw [AH (by omega) (by omega)]; simp
      rw [ew]
      refine hnext2 j3 _ (by omega) ⟨i+1,_,e0,e1,e2,rfl,by omega,hre,hgm.window Z,?_⟩
      rw [←G]
      show _=if O.ended c=true then O else UT c j3 (O.window c).2
      rw [he]
      rfl
   · have:j2=0:=by omega
     subst this
     exact fin rfl
theorem Ad6 (h0:DOk0 d) {l:List EI} {w:Nat} (Y:l.length≤1048576) (G:∀ x∈l,dX x=true) (Z:w≤1048576)
  (U:∀ (S:List AV) (D:List Nat),SegSp d.k d.R d.C d.k S→TH (d.wS S)→X3 ((d.wS S).ctx fun i=>D.getD i 0)→(UT ((d.wS S).ctx fun i=>D.getD i 0) w (XF ((d.wS S).ctx fun i=>D.getD i 0) l (init (d.wS S)))).ended ((d.wS S).ctx fun i=>D.getD i 0)=true)
  {Q:(Rows×Bool×Int)→Prop} (W:Q ((ON d.r d.n d.q (iI d)).1,true,(ON d.r d.n d.q (iI d)).2)):G8 d.p l (w:Int) Q:=
 uF h0 Y G Z fun S D b0 b1 b2 V h J _ O=>by
  have he:=U S D V h J
  refine mJ h O he (aN J O ?_)
  rw [he]; exact W
variable {d:Data} {c:T8} {m:MS} {N:Nat} {o0:A3} {o1:A2} {o2:A8}
theorem mN {x:Int} (h:SQ .u8 x):∃ n:Nat,1≤n∧n≤4∧A7 (((A7 x).tmod 4)+1)=(n:Int):=by
 have hb:=bounds_u8 h
 rw [AH (x:=x) (by omega) (by omega),Int.tmod_eq_emod_of_nonneg (by omega),AH (by omega) (by omega)]
 exact ⟨(x % 4+1).toNat,by omega,by omega,by omega⟩
theorem AbP {a:HV} (h:TT a) {Q:BF→Prop} (U:∀ d:Data,DOk0 d→d.R≤4→d.C≤4→d.room≤4→Q d.p):LF a Q:=by
 unfold LF
 obtain ⟨D,hR,hC,hm⟩:=h
 refine yM D.2.1 D.2.2.1.1 D.2.2.2.1.1 D.2.2.2.2.1 fun n k q A B M hn hk hq hA hB O Y V vM=>oM ?_
 obtain ⟨R,r1,Z,J⟩:=mN hR
 obtain ⟨C,c1,W,ce⟩:=mN hC
 obtain ⟨G,m1,m2,me⟩:=mN hm
 rw [J,ce,me]
 exact U ⟨dA a.T.Ring,n,k,q,A,B,M,R,C,G,[]⟩ ⟨AaW _,hA,hB,O,Y,V,vM,by show 1≤R∧R≤8; omega,by show 1≤C∧C≤8; omega,by show 1≤G∧G≤64; omega⟩ Z W m2
def AbQ (R C:Nat):Nat:=(R+C)*(R+C)+2
theorem pL (h:DOk0 d) {Q:Int→Prop} (D:Q ((AbQ d.R d.C:Nat):Int)):GG d.p Q:=by
 have hR:=h.R
 have hC:=h.C
 unfold GG
 refine gF h (AC rfl ?_)
 show Q (A7 ((A7 ((A7 ((d.R:Int)+(d.C:Int)))*(A7 ((d.R:Int)+(d.C:Int)))))+2))
 have G:A7 ((d.R:Int)+(d.C:Int))=((d.R+d.C:Nat):Int):=by rw [AH (by omega) (by omega)]; simp
 have O:(d.R+d.C)*(d.R+d.C)≤16*16:=Nat.mul_le_mul (by omega) (by omega)
 have J:((d.R+d.C:Nat):Int)*((d.R+d.C:Nat):Int)=(((d.R+d.C)*(d.R+d.C):Nat):Int):=by simp
 rw [G,J,AH (x:=(((d.R+d.C)*(d.R+d.C):Nat):Int)) (by omega) (by omega),AH (by omega) (by omega)]
 unfold AbQ at D
 rw [Int.natCast_add] at D
 exact D
theorem pM {n:Nat} (g:Nat→Nat→Nat):∀ (L:List (Int×Int)),L.Nodup→(∀ q∈L,∃ f t:Nat,f<n∧t<n∧q=((f:Int),(t:Int))) →
  (L.map fun q=>g q.1.toNat q.2.toNat).sum=aM (fun f=>aM (fun t=>if ((f:Int),(t:Int))∈L then g f t else 0) n) n
 | [],_,_=>by
  have e:aM (fun f:Nat=>aM (fun t:Nat=>if ((f:Int),(t:Int))∈([]:List (Int×Int)) then g f t else 0) n) n=aM (fun _=>0) n:=KD fun i hi=>by
   have:aM (fun t:Nat=>if ((i:Int),(t:Int))∈([]:List (Int×Int)) then g i t else 0) n=aM (fun _=>0) n:=KD fun j G=>by simp
   rw [this,TA]; simp
  rw [e,TA]; simp
 | q :: L,hn,hk=>by
  rw [List.nodup_cons] at hn
  obtain ⟨f,t,U,D,rfl⟩:=hk q List.mem_cons_self
  have O:=pM g L hn.2 fun q J=>hk q (List.mem_cons_of_mem _ J)
  have h:=X5 (g:=fun j:Nat=>if ((f:Int),(j:Int))∈L then g f j else 0) (g':=fun j:Nat=>if ((f:Int),(j:Int))∈((f:Int),(t:Int)) :: L then g f j else 0) D (fun i hi=>by
   have:¬((f:Int),(i:Int))=((f:Int),(t:Int)):=by simp; omega
   simp only [List.mem_cons,this,false_or])
  have h2:=X5 (g:=fun i:Nat=>aM (fun j:Nat=>if ((i:Int),(j:Int))∈L then g i j else 0) n) (g':=fun i:Nat=>aM (fun j:Nat=>if ((i:Int),(j:Int))∈((f:Int),(t:Int)) :: L then g i j else 0) n) U (fun i hi=>KD fun j G=>by
   have:¬((i:Int),(j:Int))=((f:Int),(t:Int)):=by simp; omega
   simp only [List.mem_cons,this,false_or])
  rw [if_neg hn.1] at h
  rw [if_pos List.mem_cons_self] at h
  rw [List.map_cons,List.sum_cons,O]
  simp only [Int.toNat_natCast]
  omega
theorem zZ (h:Rep c m o0 o1 o2) (hb:OT c m≤1000000000) {Q:Int→Prop} (hQ:Q (OT c m:Int)):FP o0 o2 Q:=by
 have O:(o0.boxes.map fun p=>(m.bx p.1.1.toNat p.1.2.toNat).fs.length).sum=OT c m:=by
   have:=pM (n:=c.n) (fun f t=>(m.bx f t).fs.length) (o0.boxes.map fun p:(Int×Int)×Option Nat=>p.1) h.ks h.kr
   rw [List.map_map] at this
   rw [show (o0.boxes.map fun p=>(m.bx p.1.1.toNat p.1.2.toNat).fs.length)=o0.boxes.map ((fun q:Int×Int=>(m.bx q.1.toNat q.2.toNat).fs.length)∘(·.1)) from rfl,this]
   unfold OT
   refine KD fun f hf=>KD fun t ht=>?_
   split
   · rfl
   · rename_i Y
     rw [h.no f t (WP Y)]; rfl
 unfold FP
 refine BV (fun j (x:(List ((Int×Int)×(Option Nat)))×Int)=>∃ dn:List ((Int×Int)×(Option Nat)),o0.boxes.Perm (dn++x.1)∧x.2=((dn.map fun p=>(m.bx p.1.1.toNat p.1.2.toNat).fs.length).sum:Nat)∧x.1.length=j) (m0:=o0.boxes.length) ⟨[],by simp,by simp,rfl⟩ ?_
 rintro j ⟨rest,acc⟩ next ⟨dn,hp,G,hj⟩ hnext
 simp only at hp G hj
 refine cY (fun hr=>?_) (fun p r W=>?_)
 · subst hr
   rw [List.append_nil] at hp
   rw [G,← (hp.map _).sum_nat,O]
   exact hQ
 · have U:o0.boxes.Perm ((dn++[p])++r):=hp.trans (by rw [List.append_assoc]; exact (List.Perm.refl dn).append W)
   have J:p∈o0.boxes:=U.mem_iff.2 (by simp)
   obtain ⟨f,t,hf,ht,Z⟩:=h.kr p.1 (List.mem_map_of_mem J)
   have D:BK ((f:Int),(t:Int)) o0.boxes=some p.2:=(HH h.ks).2 (by rw [←Z]; exact J)
   have V:((dn++[p]).map fun p=>(m.bx p.1.1.toNat p.1.2.toNat).fs.length).sum=(dn.map fun p=>(m.bx p.1.1.toNat p.1.2.toNat).fs.length).sum+(m.bx f t).fs.length:=by
     rw [List.map_append,List.sum_append,List.map_singleton,Z]; simp
   have hle:((dn++[p]).map fun p=>(m.bx p.1.1.toNat p.1.2.toNat).fs.length).sum≤OT c m:=by
     have e3:=(U.map fun p=>(m.bx p.1.1.toNat p.1.2.toNat).fs.length).sum_nat
     rw [O,List.map_append (l₁:=dn++[p]) (l₂:=r),List.sum_append] at e3
     omega
   unfold NL
   cases hv:p.2 with
   | none=>rw [hv] at D; exact absurd D (h.nn _)
   | some b=>
     rw [hv] at D
     obtain ⟨pb,g1,g2⟩:=h.bx f t b D
     rw [F9,JD g1]
     refine AbF g2 ?_
     refine hnext r.length _ ?_ ⟨dn++[p],U,?_,rfl⟩
     · have:=W.length_eq; simp at this; omega
     · simp only
       rw [V,G,AH (by omega) (by omega)]; simp
end Go.Proofs.YtbohadngdkjljaaGreat
