import Derived.Test.YtbohadngdkjljaaGreatSumK
namespace Go.Proofs.YtbohadngdkjljaaGreat
open Go Go.Fw
set_option linter.unusedVariables false
set_option linter.unusedSimpArgs false
structure DOk0 (d:Data):Prop where
 r:1≤d.r∧d.r≤5
 cA:Canon d.n d.k d.A
 cB:Canon d.k d.q d.B
 cM:Canon d.n d.q d.M
 vA:∀ t∈d.A,GN t.Val
 vB:∀ t∈d.B,GN t.Val
 vM:∀ t∈d.M,GN t.Val
 R:1≤d.R∧d.R≤8
 C:1≤d.C∧d.C≤8
 room:1≤d.room∧d.room≤64
def Data.wS (d:Data) (S:List AX):Data:={ d with S:=S }
theorem SegSp.ok {d:Data} {S:List AX} (h:SegSp d.k d.R d.C d.k S) (G:S.length+1≤d.R+d.C):zX (d.wS S):=
 ⟨G,fun s D=>(h.row s D).1,fun s D=>(h.col s D).1,fun s D=>⟨(h.lo s D).1,by have:=(h.lo s D).2.1; show S[s].From≤S[s].To; omega,(h.lo s D).2.2⟩,h.top⟩
theorem DOk0.seg {d:Data} (h:DOk0 d) {S:List AX} (D:zX (d.wS S)):SM (d.wS S):=⟨h.r,h.cA,h.cB,h.cM,h.vA,h.vB,h.vM,h.R,h.C,h.room,D⟩
variable {d:Data}
theorem fU (h:DOk0 d) {Q:Int→Prop} (O:Q 0):HT d.p Q:=by
 have hR:=h.R
 have hC:=h.C
 have hr:=h.r
 have hm:=h.room
 unfold HT Data.p EC
 refine LW (AC (by simp; omega) ?_)
 refine bV ⟨h.cA.sml.1,h.cA.sml.2.1⟩ (AC (by rw [decide_eq_true h.cA.right]; rfl) ?_)
 refine bV ⟨h.cB.sml.1,h.cB.sml.2.1⟩ (AC (by rw [decide_eq_true h.cB.right]; rfl) ?_)
 refine bV ⟨h.cM.sml.1,h.cM.sml.2.1⟩ ?_
 rw [decide_eq_true h.cM.right]
 refine AC rfl (CK (fun e=>absurd rfl e) fun _=>CK (fun e=>absurd rfl e) fun _=>?_)
 show AD (d.q != d.q) _ _
 refine AC (by simp) ?_
 have D:∀ (a m:Int) {Q:Bool→Prop},1≤a→a≤m→Q true→IL a m Q:=fun a m Q U J G=>by
  unfold IL
  exact AY (by simpa using U) (by rw [decide_eq_true J]; exact G)
 exact D _ _ (by show (1:Int)≤(d.R:Int); omega) (by show (d.R:Int)≤8; omega) (AC rfl (D _ _ (by show (1:Int)≤(d.C:Int); omega) (by show (d.C:Int)≤8; omega) (AC rfl (D _ _ (by show (1:Int)≤(d.room:Int); omega) (by show (d.room:Int)≤64; omega) (AC rfl O)))))
theorem PH {c i j:Nat} {Q:Int→Prop} (D:1≤c∧c≤8) (hi:i<8) (hj:j<c) (h:Q ((i*c+j:Nat):Int)):IC (c:Int) (i:Int) (j:Int) Q:=by
 unfold IC
 have hb:i*c≤8*8:=Nat.mul_le_mul (by omega) D.2
 have e:((i:Int)*(c:Int))=((i*c:Nat):Int):=by simp
 refine ZX (AC (by rw [decide_eq_true (show NF (c:Int) from ⟨by omega,by omega⟩)]; rfl) (AC (by simp) (AC (by simp; omega) (AC (by simp) (AC (by simp; omega) ?_)))))
 rw [e,AJ (x:=((i*c:Nat):Int)) (by omega) (by omega),AJ (by omega) (by omega)]
 simpa using h
def mF (d:Data) (w s j:Nat):AO:={ Kind:=6,From:=((w / d.C*d.C+w % d.C:Nat):Int),To:=((w / d.C*d.C+j:Nat):Int),Seq:=0,Round:=(s:Int),Vec:={ N:=0,Items:=[] },Sums:=[],Triples:=VO d (w / d.C) (BJ d.S s) (BJ d.S (s+1)),N:=0,Over:=false }
def mG (d:Data) (w s i:Nat):AO:={ Kind:=7,From:=((w / d.C*d.C+w % d.C:Nat):Int),To:=((i*d.C+w % d.C:Nat):Int),Seq:=0,Round:=(s:Int),Vec:={ N:=0,Items:=[] },Sums:=[],Triples:=X3 d (w % d.C) (BJ d.S s) (BJ d.S (s+1)),N:=0,Over:=false }
def KK (d:Data) (w s:Nat):List AO:=if (d.S.getD s default).Col=((w % d.C:Nat):Int) then (List.range d.C).map (mF d w s) else []
def N3 (d:Data) (w s:Nat):List AO:=if (d.S.getD s default).Row=((w / d.C:Nat):Int) then (List.range d.R).map (mG d w s) else []
def OS (d:Data) (w t:Nat):List AO:=(List.range t).flatMap fun s=>KK d w s++N3 d w s
theorem WV (d:Data) (w t:Nat):OS d w (t+1)=OS d w t++(KK d w t++N3 d w t):=by unfold OS; rw [List.range_succ,List.flatMap_append,List.flatMap_singleton]
theorem pG (h:SM d) (w s:Nat):(KK d w s++N3 d w s).length≤16:=by
 have hR:=h.R
 have hC:=h.C
 rw [List.length_append]
 unfold KK N3
 split <;> split <;> simp <;> omega
theorem aH (h:SM d) (w:Nat):∀ t,(OS d w t).length≤t*16
 | 0=>by simp [OS]
 | t+1=>by rw [WV,List.length_append]; have:=aH h w t; have:=pG h w t; omega
def w0 (d:Data) (w:Nat) (out:List AO):AF:={ i:=((w / d.C:Nat):Int),j:=((w % d.C:Nat):Int),mask:=B0 (d.rl (w / d.C+1) - d.rl (w / d.C)) (d.cl (w % d.C+1) - d.cl (w % d.C)) (jX d (w / d.C) (w % d.C)),out:=out,parts:=[],at_:=0,has:=[] }
abbrev pk (x:AF) (k:Int):Int×Int×Int×Int×(List Int)×(List Int)×(List Int)×(List AO)×(List (BE×(List A3)))×Int×(List AB)×Int:=
 (x.i,x.j,x.mask.Rows,x.mask.Cols,x.mask.Start,x.mask.Col,x.mask.Val,x.out,x.parts,x.at_,x.has,k)
theorem AbP (h:SM d) {w s:Nat} (hw:w<d.R*d.C) (hs:s<d.S.length) {ws:List (Option Nat)} {bs:List ((Int×Int)×Option Nat)} {bk:A2} {out:List AO} (hl:out.length≤10000) {Q:AF→Prop}
   (hQ:Q (w0 d w (out++(KK d w s++N3 d w s)))):FR { p:=d.p,stages:=d.S,workers:=ws,boxes:=bs } (w0 d w out) bk (s:Int) d.S[s] Q:=by
 have hR:=h.R
 have hC:=h.C
 have hi:w / d.C<d.R:=Nat.div_lt_of_lt_mul (by rw [Nat.mul_comm]; exact hw)
 have hj:w % d.C<d.C:=Nat.mod_lt _ (by omega)
 have b1:=aD h (w / d.C)
 have b2:=aF h (w % d.C)
 have hlo:=h.seg.lo s hs
 have hb:=aG h s (by omega)
 have he:=U2 (d:=d) hs
 have O:d.S.getD s default=d.S[s]:=by simp [List.getD_eq_getElem?_getD,hs]
 obtain ⟨eA,V,_⟩:=DO h.cA (l:=d.rl (w / d.C)) (u:=d.rl (w / d.C+1)) (c:=d.S[s].From) (d:=d.S[s].To) b1.1 b1.2.1 b1.2.2 (by omega) (by omega) (by omega)
 obtain ⟨eB,U,_⟩:=DO h.cB (l:=d.S[s].From) (u:=d.S[s].To) (c:=d.cl (w % d.C)) (d:=d.cl (w % d.C+1)) (by omega) (by omega) (by omega) b2.1 b2.2.1 b2.2.2
 have mX:∀ {n:Int} {k i:Nat} {Q:Int×Int→Prop},k≤8→i<k→Q (BS n k i,BS n k ((i+1:Nat):Int))→HZ n (k:Int) (i:Int) Q:=fun {n k i Q} hk hi Z=>by
   unfold HZ
   refine HW ?_
   rw [AJ (by omega) (by omega)]
   exact HW (by simpa using Z)
 unfold FR
 -- the J half
 have J:∀ (G:List AO),G.length≤10100→Q (w0 d w (G++N3 d w s))→∀ {X:Prop},True→(AD (d.S[s].Row==((w / d.C:Nat):Int)) (HZ d.q (d.C:Int) ((w % d.C:Nat):Int) fun r950=>LD (B0 d.k d.q d.B) (d.S[s].From,d.S[s].To) r950 fun r954=>M0 r954 fun r971=>
     B1 (fun (t:Int×Int×Int×Int×(List Int)×(List Int)×(List Int)×(List AO)×(List (BE×(List A3)))×Int×(List AB)×Int) (next:(Int×Int×Int×Int×(List Int)×(List Int)×(List Int)×(List AO)×(List (BE×(List A3)))×Int×(List AB)×Int)→Prop)=>match t with | (s1125,s1126,s1127,s1128,s1129,s1133,s1137,s1141,s1145,s1146,s1147,s1151)=>AD (decide (s1151<(d.R:Int))) (CC d.p (s:Int) bk ({ i:=s1125,j:=s1126,mask:=({ Rows:=s1127,Cols:=s1128,Start:=s1129,Col:=s1133,Val:=s1137 }:Rows),out:=s1141,parts:=s1145,at_:=s1146,has:=s1147 }:AF) 7 s1151 s1126 r971 fun D=>next (D.i,D.j,D.mask.Rows,D.mask.Cols,D.mask.Start,D.mask.Col,D.mask.Val,D.out,D.parts,D.at_,D.has,A7 (s1151+1))) (Q ({ i:=s1125,j:=s1126,mask:=({ Rows:=s1127,Cols:=s1128,Start:=s1129,Col:=s1133,Val:=s1137 }:Rows),out:=s1141,parts:=s1145,at_:=s1146,has:=s1147 }:AF))) (pk (w0 d w G) 0)) (Q (w0 d w G))):=by
   intro G hl2 Z X _
   refine BA (fun e=>?_) (fun e=>?_)
   · refine mX hC.2 hj ?_
     refine TQ h.cB.sml (D8 h.cB) h.cB ?_
     have eB':bI d.k d.q d.B (d.S[s].From,d.S[s].To) (BS d.q d.C ((w % d.C:Nat):Int),BS d.q d.C ((w % d.C+1:Nat):Int))=_:=eB
     rw [eB']
     refine V8 U.sml (D8 U) U ?_
     have Y:N3 d w s=(List.range d.R).map (mG d w s):=by unfold N3; rw [O,if_pos e]
     rw [Y] at Z
     refine BT (fun j (t:Int×Int×Int×Int×(List Int)×(List Int)×(List Int)×(List AO)×(List (BE×(List A3)))×Int×(List AB)×Int)=>∃ a:Nat,t=pk (w0 d w (G++(List.range a).map (mG d w s))) (a:Int)∧a+j=d.R) (m0:=d.R) ⟨0,by simp,by omega⟩ ?_
     rintro j _ next ⟨a,rfl,haj⟩ hnext
     show AD (decide ((a:Int)<(d.R:Int))) _ _
     refine A0 (fun ha=>?_) (fun ha=>?_)
     · show CC d.p (s:Int) bk (w0 d w (G++(List.range a).map (mG d w s))) 7 (a:Int) ((w % d.C:Nat):Int) _ _
       unfold CC
       show IC (d.C:Int) ((w / d.C:Nat):Int) ((w % d.C:Nat):Int) _
       refine PH hC (by omega) hj ?_
       show IC (d.C:Int) (a:Int) ((w % d.C:Nat):Int) _
       refine PH hC (by omega) hj (AR (by show ((G++(List.range a).map (mG d w s)).length+1)*136≤_; simp; omega) ?_)
       refine hnext (j - 1) _ (by omega) ⟨a+1,?_,by omega⟩
       have ew:A7 ((a:Int)+1)=((a+1:Nat):Int):=by rw [AJ (by omega) (by omega)]; simp
       rw [ew,List.range_succ,List.map_append,←List.append_assoc]
       have ef:([mG d w s a]:List AO)=[{ Kind:=7,From:=((w / d.C*d.C+w % d.C:Nat):Int),To:=((a*d.C+w % d.C:Nat):Int),Seq:=0,Round:=(s:Int),Vec:={ N:=0,Items:=[] },Sums:=[],Triples:=HI d.S[s].From d.S[s].To (d.cl (w % d.C)) (d.cl (w % d.C+1)) d.B,N:=0,Over:=false }]:=by
        unfold mG X3; rw [he,hlo.1]
       rw [List.map_singleton,ef]
       rfl
     · have:a=d.R:=by omega
       subst this
       exact Z
   · have Y:N3 d w s=[]:=by unfold N3; rw [O,if_neg e]
     rw [Y,List.append_nil] at Z
     exact Z
 unfold EC
 refine BA (fun e=>?_) (fun e=>?_)
 · have e:d.S[s].Col=((w % d.C:Nat):Int):=e
   show HZ d.n (d.R:Int) ((w / d.C:Nat):Int) _
   refine mX hR.2 hi ?_
   show LD (B0 d.n d.k d.A) _ _ _
   refine TQ h.cA.sml (D8 h.cA) h.cA ?_
   have eA':bI d.n d.k d.A (BS d.n d.R ((w / d.C:Nat):Int),BS d.n d.R ((w / d.C+1:Nat):Int)) (d.S[s].From,d.S[s].To)=_:=eA
   rw [eA']
   refine V8 V.sml (D8 V) V ?_
   have W:KK d w s=(List.range d.C).map (mF d w s):=by unfold KK; rw [O,if_pos e]
   rw [W,←List.append_assoc] at hQ
   refine BT (fun j (t:Int×Int×Int×Int×(List Int)×(List Int)×(List Int)×(List AO)×(List (BE×(List A3)))×Int×(List AB)×Int)=>∃ a:Nat,t=pk (w0 d w (out++(List.range a).map (mF d w s))) (a:Int)∧a+j=d.C) (m0:=d.C) ⟨0,by simp,by omega⟩ ?_
   rintro j _ next ⟨a,rfl,haj⟩ hnext
   show AD (decide ((a:Int)<(d.C:Int))) _ _
   refine A0 (fun ha=>?_) (fun ha=>?_)
   · show CC d.p (s:Int) bk (w0 d w (out++(List.range a).map (mF d w s))) 6 ((w / d.C:Nat):Int) (a:Int) _ _
     unfold CC
     show IC (d.C:Int) ((w / d.C:Nat):Int) ((w % d.C:Nat):Int) _
     refine PH hC (by omega) hj ?_
     show IC (d.C:Int) ((w / d.C:Nat):Int) (a:Int) _
     refine PH hC (by omega) (by omega) (AR (by show ((out++(List.range a).map (mF d w s)).length+1)*136≤_; simp; omega) ?_)
     refine hnext (j - 1) _ (by omega) ⟨a+1,?_,by omega⟩
     have ew:A7 ((a:Int)+1)=((a+1:Nat):Int):=by rw [AJ (by omega) (by omega)]; simp
     rw [ew,List.range_succ,List.map_append,←List.append_assoc]
     have ef:([mF d w s a]:List AO)=[{ Kind:=6,From:=((w / d.C*d.C+w % d.C:Nat):Int),To:=((w / d.C*d.C+a:Nat):Int),Seq:=0,Round:=(s:Int),Vec:={ N:=0,Items:=[] },Sums:=[],Triples:=HI (d.rl (w / d.C)) (d.rl (w / d.C+1)) d.S[s].From d.S[s].To d.A,N:=0,Over:=false }]:=by
       unfold mF VO; rw [he,hlo.1]
     rw [List.map_singleton,ef]
     rfl
   · have:a=d.C:=by omega
     subst this
     exact J _ (by simp; omega) hQ (X:=True) trivial
 · have e:¬d.S[s].Col=((w % d.C:Nat):Int):=e
   have W:KK d w s=[]:=by unfold KK; rw [O,if_neg e]
   rw [W,List.nil_append] at hQ
   exact J _ (by omega) hQ (X:=True) trivial
variable {d:Data}
def init (d:Data):MS:={ w:=fun k=>⟨OS d k d.S.length,fun _=>false,fun _=>false,0⟩,bx:=fun _ _=>⟨d.room,[],[],0⟩ }
theorem Ad5 (h:SM d) {adr:Nat→Nat} (D:∀ i j,i<d.R*d.C→j<d.R*d.C→adr i=adr j→i=j):VL (d.ctx adr):=by
 have J:=h.R
 have G:=h.C
 have hl:=h.seg.len
 exact ⟨Nat.mul_le_mul J.2 G.2,rfl,h.room.1,h.room.2,by show d.S.length≤64; omega,D⟩
theorem PX {C i j:Nat} (h:j<C):(i*C+j) / C=i∧(i*C+j) % C=j:=by
 have D:0<C:=by omega
 constructor
 · rw [Nat.mul_comm,Nat.mul_add_div D,Nat.div_eq_of_lt h]; omega
 · rw [Nat.mul_comm,Nat.mul_add_mod,Nat.mod_eq_of_lt h]
theorem fV {R C i j:Nat} (hi:i<R) (hj:j<C):i*C+j<R*C:=by
 have:(i+1)*C≤R*C:=Nat.mul_le_mul_right _ (by omega)
 rw [Nat.succ_mul] at this; omega
theorem AbQ {w t:Nat} {f:AO} (h:f∈OS d w t):∃ s,s<t∧(((d.S.getD s default).Col=((w % d.C:Nat):Int)∧∃ j,j<d.C∧f=mF d w s j)∨(d.S.getD s default).Row=((w / d.C:Nat):Int)∧∃ i,i<d.R∧f=mG d w s i):=by
 unfold OS at h
 obtain ⟨s,J,D⟩:=List.mem_flatMap.1 h
 refine ⟨s,List.mem_range.1 J,?_⟩
 rcases List.mem_append.1 D with D | D
 · unfold KK at D
   split at D
   · rename_i e
     obtain ⟨j,G,rfl⟩:=List.mem_map.1 D
     exact .inl ⟨e,j,List.mem_range.1 G,rfl⟩
   · exact absurd D (List.not_mem_nil)
 · unfold N3 at D
   split at D
   · rename_i e
     obtain ⟨j,G,rfl⟩:=List.mem_map.1 D
     exact .inr ⟨e,j,List.mem_range.1 G,rfl⟩
   · exact absurd D (List.not_mem_nil)
theorem AbR (h:SM d) (i:Nat) (a b:Int):(VO d i a b).length≤65536:=by
 have:=h.cA.len
 unfold VO HI
 rw [List.length_map]
 have:=List.length_filter_le (fun t:A3=>decide ((d.rl i≤t.Row∧t.Row<d.rl (i+1))∧(a≤t.Col∧t.Col<b))) d.A
 omega
theorem AbS (h:SM d) (i:Nat) (a b:Int):(X3 d i a b).length≤65536:=by
 have:=h.cB.len
 unfold X3 HI
 rw [List.length_map]
 have:=List.length_filter_le (fun t:A3=>decide ((a≤t.Row∧t.Row<b)∧(d.cl i≤t.Col∧t.Col<d.cl (i+1)))) d.B
 omega
theorem cC (h:SM d) (adr:Nat→Nat):Good (d.ctx adr) (init d):=by
 have hR:=h.R
 have hC:=h.C
 have hl:=h.seg.len
 refine ⟨fun k hk f U=>?_,fun f t _ _ g D=>absurd D (List.not_mem_nil),fun f t _ _=>?_,fun f t _ _=>⟨rfl,Nat.zero_le _⟩,fun f t _ _ i g D=>by cases D⟩
 · have hi:k / d.C<d.R:=Nat.div_lt_of_lt_mul (by rw [Nat.mul_comm]; exact hk)
   have O:k % d.C<d.C:=Nat.mod_lt _ (by omega)
   obtain ⟨s,J,⟨_,j,hj',rfl⟩ | ⟨_,i,G,rfl⟩⟩:=AbQ U
   · have hp:=PX (i:=k / d.C) hj'
     refine ⟨k / d.C*d.C+j,s,fV hi hj',J,rfl,rfl,⟨rfl,rfl,?_⟩,.inl ⟨rfl,?_⟩⟩
     · have:=AbR h (k / d.C) (BJ d.S s) (BJ d.S (s+1)); show (VO d _ _ _).length≤_; omega
     · show VO d (k / d.C) _ _=VO d ((k / d.C*d.C+j) / d.C) _ _
       rw [hp.1]
   · have hp:=PX (i:=i) O
     refine ⟨i*d.C+k % d.C,s,fV G O,J,rfl,rfl,⟨rfl,rfl,?_⟩,.inr ⟨rfl,?_⟩⟩
     · have:=AbS h (k % d.C) (BJ d.S s) (BJ d.S (s+1)); show (X3 d _ _ _).length≤_; omega
     · show X3 d (k % d.C) _ _=X3 d ((i*d.C+k % d.C) % d.C) _ _
       rw [hp.2]
 · have:=aH h f d.S.length
   show 0+(OS d f d.S.length).length≤_
   omega
theorem kA (h:SM d) (adr:Nat→Nat):Live (d.ctx adr) (aB (d.ctx adr) (init d)) (init d):=by
 refine ⟨fun f t _ _=>BInv.empty (d.ctx adr),?_⟩
 · have e:KZ (d.ctx adr) (init d)=0:=by
    unfold KZ
    have D:MH (fun f=>MH (fun t=>((init d).bx f t).fs.length) (d.ctx adr).n) (d.ctx adr).n=MH (fun _=>0) (d.ctx adr).n:=ER fun i hi=>by
     have:MH (fun t=>((init d).bx i t).fs.length) (d.ctx adr).n=MH (fun _=>0) (d.ctx adr).n:=ER fun j hj=>rfl
     rw [this,KD]; simp
    rw [D,KD]; simp
   omega
theorem kB (h:SM d) (k:Nat):IV d (k / d.C) (k % d.C) 0=[]:=by
 unfold IV FT
 rw [List.filterMap_eq_nil_iff]
 intro t U
 have D:=aD h (k / d.C)
 have b2:=aF h (k % d.C)
 obtain ⟨_,J,_⟩:=DO h.cA (l:=d.rl (k / d.C)) (u:=d.rl (k / d.C+1)) (c:=0) (d:=0) D.1 D.2.1 D.2.2 (by omega) (by omega) h.cA.c0
 obtain ⟨_,O,_⟩:=DO h.cM (l:=d.rl (k / d.C)) (u:=d.rl (k / d.C+1)) (c:=d.cl (k % d.C)) (d:=d.cl (k % d.C+1)) D.1 D.2.1 D.2.2 b2.1 b2.2.1 b2.2.2
 have G:=O.inn t U
 unfold RC at G
 unfold G4
 show (KY d.r (VO d (k / d.C) 0 0) _ _ _).map _=none
 unfold VO
 rw [SY J G.1]
 rfl
theorem Aa1 (h:SM d) {D:List Nat} {O:A2} (U:D.length=d.R*d.C) (Y:∀ k (hk:k<D.length),BK D[k] O=some (w0 d k (OS d k d.S.length))) :
   Rep (d.ctx fun i=>D.getD i 0) (init d) { p:=d.p,stages:=d.S,workers:=D.map some,boxes:=[] } O []:=by
 refine ⟨rfl,rfl,?_,fun k hk=>?_,fun f t _=>rfl,fun q J=>(by cases J),fun f t b W=>(by cases W),fun q q' b J _=>(by cases J),List.nodup_nil,fun q J=>(by cases J)⟩
 · refine List.ext_getElem (by simp [Data.ctx,U]) fun i V h2=>?_
   simp only [List.length_map] at V
   simp [Data.ctx,List.getD_eq_getElem?_getD,V]
 · have G:k<D.length:=by rw [U]; exact hk
   have e:D.getD k 0=D[k]:=by simp [List.getD_eq_getElem?_getD,G]
   refine ⟨w0 d k (OS d k d.S.length),?_,?_⟩
   · show BK (D.getD k 0) O=some _
     rw [e]; exact Y k G
   · have Z:=kB h k
     exact ⟨rfl,rfl,rfl,rfl,rfl,Nat.zero_le _,Z.symm,fun s _=>rfl,fun s _=>rfl⟩
theorem Aa2 (h:SM d) {i j:Nat} (hi:i<d.R) (hj:j<d.C) {Q:Rows→Prop} (O:Q (B0 (d.rl (i+1) - d.rl i) (d.cl (j+1) - d.cl j) (jX d i j))):PP (B0 d.n d.q d.M) (d.R:Int) (d.C:Int) (i:Int) (j:Int) Q:=by
 have hR:=h.R
 have hC:=h.C
 have G:dA (d.R:Int) (d.C:Int) (i:Int) (j:Int):=⟨⟨⟨by omega,by omega⟩,by omega,by omega⟩,⟨by omega,by omega⟩,by omega,by omega⟩
 refine lY h.cM ?_
 have D:=aD h i
 have b2:=aF h j
 obtain ⟨J,_,_⟩:=DO h.cM (l:=d.rl i) (u:=d.rl (i+1)) (c:=d.cl j) (d:=d.cl (j+1)) D.1 D.2.1 D.2.2 b2.1 b2.2.1 b2.2.2
 unfold vP
 rw [if_pos G]
 have V:BS d.n (d.R:Int) ((i:Int)+1)=d.rl (i+1):=by unfold Data.rl; simp
 have U:BS d.q (d.C:Int) ((j:Int)+1)=d.cl (j+1):=by unfold Data.cl; simp
 rw [V,U]
 show Q (bI d.n d.q d.M (d.rl i,d.rl (i+1)) (d.cl j,d.cl (j+1)))
 rw [J]
 exact O
theorem mH (U:DOk0 d) {o2:A6} {Q0:(Int×A2)→Prop} {Q1:(Int×A2×A1)→Prop}
   (hQ:∀ (S:List AX) (D:List Nat) O,SegSp d.k d.R d.C d.k S→SM (d.wS S)→VL ((d.wS S).ctx fun i=>D.getD i 0)→Rep ((d.wS S).ctx fun i=>D.getD i 0) (init (d.wS S)) { p:=d.p,stages:=S,workers:=D.map some,boxes:=[] } O []→Q1 (0,O,{ p:=d.p,stages:=S,workers:=D.map some,boxes:=[] })) :
   EV [] o2 d.p Q0 Q1:=by
 have hR:=U.R
 have hC:=U.C
 have hn:d.R*d.C≤64:=Nat.mul_le_mul hR.2 hC.2
 unfold EV
 refine fU U (AC rfl ?_)
 show KS d.k (d.R:Int) (d.C:Int) _
 refine pF ⟨U.cA.c0,U.cA.c1⟩ hR hC fun S hS hSl=>?_
 have h:SM (d.wS S):=U.seg (hS.ok hSl)
 have ern:((d.R:Int)*(d.C:Int))=((d.R*d.C:Nat):Int):=by simp
 have ewn:A7 ((d.R:Int)*(d.C:Int))=((d.R*d.C:Nat):Int):=by rw [ern,AJ (by omega) (by omega)]
 refine BT (fun j (x:List (Option Nat)×Int×A2)=>∃ (D:List Nat) (O:A2),x=(D.map some,(D.length:Int),O)∧D.length+j=d.R*d.C∧D.Nodup∧∀ k (hk:k<D.length),BK D[k] O=some (w0 (d.wS S) k (OS (d.wS S) k S.length))) (m0:=d.R*d.C) ⟨[],[],rfl,by simp,List.nodup_nil,fun k hk=>by simp at hk⟩ ?_
 rintro j _ next ⟨D,O,rfl,hj,V,hw⟩ hnext
 show AD (decide ((D.length:Int)<A7 ((d.R:Int)*(d.C:Int)))) _ _
 rw [ewn]
 refine A0 (fun hk=>?_) (fun hk=>?_)
 · have G:D.length<d.R*d.C:=by omega
   generalize hkk:D.length=k at G hj hk
   have hi:k / d.C<d.R:=Nat.div_lt_of_lt_mul (by rw [Nat.mul_comm]; exact G)
   have hjc:k % d.C<d.C:=Nat.mod_lt _ (by omega)
   have Y:NF (d.C:Int):=⟨by omega,by omega⟩
   have W:k<8*d.C:=Nat.lt_of_lt_of_le G (Nat.mul_le_mul_right _ hR.2)
   show SP (d.C:Int) (k:Int) _
   refine dB Y W ?_
   show UV (d.C:Int) (k:Int) _
   refine oY Y W ?_
   show PP (B0 d.n d.q d.M) (d.R:Int) (d.C:Int) ((k / d.C:Nat):Int) ((k % d.C:Nat):Int) _
   refine Aa2 (d:=d.wS S) h hi hjc ?_
   refine BT (fun j (t:Int×Int×Int×Int×(List Int)×(List Int)×(List Int)×(List AO)×(List (BE×(List A3)))×Int×(List AB)×Int)=>∃ s:Nat,t=pk (w0 (d.wS S) k (OS (d.wS S) k s)) (s:Int)∧s+j=S.length) (m0:=S.length) ⟨0,rfl,by omega⟩ ?_
   rintro j2 _ next2 ⟨s,rfl,hsj⟩ hnext2
   show AD (decide ((s:Int)<(S.length:Int))) _ _
   refine A0 (fun hs=>?_) (fun hs=>?_)
   · have Z:s<S.length:=by omega
     refine AK Z ?_
     have hlen:=aH h k s
     refine AbP (d:=d.wS S) h (w:=k) (s:=s) G Z (out:=OS (d.wS S) k s) (by omega) ?_
     have ew:A7 ((s:Int)+1)=((s+1:Nat):Int):=by rw [AJ (by omega) (by omega)]; simp
     rw [ew,←WV]
     exact hnext2 (j2 - 1) _ (by omega) ⟨s+1,rfl,by omega⟩
   · have hse:s=S.length:=by omega
     subst hse
     intro b hb
     refine AR (by simp; omega) ?_
     have ew:A7 ((k:Int)+1)=(((D++[b]).length:Nat):Int):=by rw [AJ (by omega) (by omega)]; simp [hkk]
     rw [ew]
     have J:∀ i (hi:i<D.length),D[i]≠b:=fun i hi e=>by have:=hw i hi; rw [e,hb] at this; cases this
     refine hnext (j - 1) _ (by omega) ⟨D++[b],_,by rw [List.map_append]; rfl,by simp; omega,?_,fun i hi=>?_⟩
     · rw [List.nodup_append]
       refine ⟨V,(by simp),fun a ha c hc e=>?_⟩
       rw [List.mem_singleton] at hc
       obtain ⟨i,hi,rfl⟩:=List.getElem_of_mem ha
       exact J i hi (e.trans hc)
     · simp only [List.length_append,List.length_singleton] at hi
       by_cases e:i<D.length
       · rw [List.getElem_append_left e,VK (J i e)]
         exact hw i e
       · have ei:i=k:=by omega
         subst ei
         have:(D++[b])[i]'(by simp; omega)=b:=by rw [List.getElem_append_right (by omega)]; simp
         rw [this,QS]
 · have hl:D.length=d.R*d.C:=by omega
   have hinj:∀ i j,i<d.R*d.C→j<d.R*d.C→D.getD i 0=D.getD j 0→i=j:=fun i j hi hj e=>by
     have e1:D.getD i 0=D[i]'(by omega):=by simp [List.getD_eq_getElem?_getD,show i<D.length by omega]
     have e2:D.getD j 0=D[j]'(by omega):=by simp [List.getD_eq_getElem?_getD,show j<D.length by omega]
     rw [e1,e2] at e
     exact (List.getElem_inj V).1 e
   exact hQ S D O hS h (Ad5 h hinj) (Aa1 (d:=d.wS S) h hl hw)
variable {d:Data} {c:SK} {m:MS} {N:Nat}
def iB (c:SK) (l:List FP) (m:MS):MS:=l.foldl (fun m x=>(m.act c x).2) m
theorem vY (c:SK) (l:List FP) (x:FP) (m:MS):iB c (l++[x]) m=((iB c l m).act c x).2:=by simp [iB]
theorem kC (D:VL c):∀ (l:List FP) {m:MS},Live c N m→Good c m→Live c N (iB c l m)∧Good c (iB c l m)
 | [],_,h,g=>⟨h,g⟩
 | x :: l,m,h,g=>kC D l (h.acted D g x) (g.acted D x)
abbrev AcF (o0:A1) (k:Int) (o1:A2) (o2:A6):A1×Int×A2×A6:=(o0,k,o1,o2)
theorem pH {l:List FP} (hl:l.length≤1048576) (h:∀ x∈l,hU x=true) {Q:Bool→Prop} (G:Q false):CG l Q:=by
 unfold CG DI
 refine D7 l.length (by omega) (fun _=>True) trivial (fun i next hi _ D=>?_) (fun next _=>?_)
 · refine AY (by simp; omega) (AK hi ?_)
   unfold OX
   refine aA ?_
   rw [h _ (List.getElem_mem hi)]
   exact AC rfl (D trivial)
 · exact AC (by simp) G
theorem rX {c:SK} {m:MS} (h:m.ended c=true):∀ j,hZ c j m=m
 | 0=>rfl
 | j+1=>by unfold hZ; rw [if_pos h]
theorem AbT (h0:DOk0 d) {l:List FP} {w:Nat} (hl:l.length≤1048576) (hmv:∀ x∈l,hU x=true) (hw:w≤1048576) {Q:(Rows×Bool×Int)→Prop}
   (hQ:∀ (S:List AX) (D:List Nat) (V:A1) (U:A2) (b2:A6),SegSp d.k d.R d.C d.k S→SM (d.wS S)→VL ((d.wS S).ctx fun i=>D.getD i 0) →
     Live ((d.wS S).ctx fun i=>D.getD i 0) (aB ((d.wS S).ctx fun i=>D.getD i 0) (init (d.wS S))) (iB ((d.wS S).ctx fun i=>D.getD i 0) l (init (d.wS S))) →
     Rep ((d.wS S).ctx fun i=>D.getD i 0) (hZ ((d.wS S).ctx fun i=>D.getD i 0) w (iB ((d.wS S).ctx fun i=>D.getD i 0) l (init (d.wS S)))) V U b2 →
     BU V U fun r=>BW V U fun e=>Q (r.1,e,r.2)):PS d.p l (w:Int) Q:=by
 unfold PS
 refine mH h0 fun S D bk hS h Y W=>?_
 have hQ:=fun a b e=>hQ S D a b e hS h Y
 have hrk:Rk ((d.wS S).ctx fun i=>D.getD i 0):=zY h _
 have hg:Good ((d.wS S).ctx fun i=>D.getD i 0) (init (d.wS S)):=cC h _
 have hli:=kA h fun i=>D.getD i 0
 generalize ((d.wS S).ctx fun i=>D.getD i 0)=c at Y W hQ hrk hg hli
 refine AC rfl (AC (by simp; omega) (pH hl hmv (AC rfl (AC (by simp) (AC (by simp; omega) ?_)))))
 refine BT (fun j x=>∃ (i:Nat) (a0:A1) (a1:A2) (a2:A6),x=AcF a0 (i:Int) a1 a2∧i+j=l.length∧Rep c (iB c (l.take i) (init (d.wS S))) a0 a1 a2) (m0:=l.length) ⟨0,_,bk,[],rfl,by omega,W⟩ ?_
 rintro j _ next ⟨i,a0,a1,a2,rfl,hij,hr⟩ hnext
 show AD (decide ((i:Int)<(l.length:Int))) _ _
 obtain ⟨hlv,hgd⟩:=kC Y (l.take i) hli hg
 refine A0 (fun hi=>?_) (fun hi=>?_)
 · have hi':i<l.length:=by omega
   refine AK hi' ?_
   refine mB Y hrk hr hgd (x:=l[i]) fun V U b2 hb _=>?_
   have ew:A7 ((i:Int)+1)=((i+1:Nat):Int):=by rw [AJ (by omega) (by omega)]; simp
   rw [ew]
   exact hnext (j - 1) _ (by omega) ⟨i+1,V,U,b2,rfl,by omega,by rw [List.take_succ_eq_append_getElem hi',vY]; exact hb⟩
 · have hil:i=l.length:=by omega
   subst hil
   rw [List.take_length] at hr hlv hgd
   unfold EC
   refine BT (fun j x=>∃ (i:Nat) (O:MS) (a0:A1) (a1:A2) (a2:A6),x=AcF a0 (i:Int) a1 a2∧i+j=w∧Rep c O a0 a1 a2∧Good c O∧hZ c j O=hZ c w (iB c l (init (d.wS S)))) (m0:=w) ⟨0,_,_,a1,a2,rfl,by omega,hr,hgd,rfl⟩ ?_
   rintro j2 _ next2 ⟨i,O,V,U,b2,rfl,hij2,hrm,hgm,J⟩ hnext2
   have fin:hZ c j2 O=O→BU V U fun G=>BW V U fun Z=>Q (G.1,Z,G.2):=fun he=>by
     rw [he] at J
     refine hQ V U b2 hlv ?_
     rw [←J]; exact hrm
   show AD (decide ((i:Int)<(w:Int))) _ _
   refine A0 (fun hi=>?_) (fun hi=>?_)
   · obtain ⟨j3,rfl⟩:∃ j3,j2=j3+1:=⟨j2 - 1,by omega⟩
     refine aC Y hrm ?_
     cases he:O.ended c with
     | true=>exact AC rfl (fin (rX he _))
     | false=>
      refine AY rfl ?_
      refine jV Y hrk hrm hgm fun e0 e1 e2 hre _=>?_
      have ew:A7 ((i:Int)+1)=((i+1:Nat):Int):=by rw [AJ (by omega) (by omega)]; simp
      rw [ew]
      refine hnext2 j3 _ (by omega) ⟨i+1,_,e0,e1,e2,rfl,by omega,hre,hgm.window Y,?_⟩
      rw [←J]
      show _=if O.ended c=true then O else hZ c j3 (O.window c).2
      rw [he]
      rfl
   · have:j2=0:=by omega
     subst this
     exact fin rfl
theorem Ad6 (h0:DOk0 d) {l:List FP} {w:Nat} (Z:l.length≤1048576) (G:∀ x∈l,hU x=true) (U:w≤1048576)
  (W:∀ (S:List AX) (D:List Nat),SegSp d.k d.R d.C d.k S→SM (d.wS S)→VL ((d.wS S).ctx fun i=>D.getD i 0)→(hZ ((d.wS S).ctx fun i=>D.getD i 0) w (iB ((d.wS S).ctx fun i=>D.getD i 0) l (init (d.wS S)))).ended ((d.wS S).ctx fun i=>D.getD i 0)=true)
  {Q:(Rows×Bool×Int)→Prop} (Y:Q ((QN d.r d.n d.q (iA d)).1,true,(QN d.r d.n d.q (iA d)).2)):PS d.p l (w:Int) Q:=
 AbT h0 Z G U fun S D b0 b1 b2 V h J _ O=>by
  have he:=W S D V h J
  refine mE h O he (aC J O ?_)
  rw [he]; exact Y
variable {d:Data} {c:SK} {m:MS} {N:Nat} {o0:A1} {o1:A2} {o2:A6}
theorem mI {x:Int} (h:UC .u8 x):∃ n:Nat,1≤n∧n≤4∧A7 (((A7 x).tmod 4)+1)=(n:Int):=by
 have hb:=bounds_u8 h
 rw [AJ (x:=x) (by omega) (by omega),Int.tmod_eq_emod_of_nonneg (by omega),AJ (by omega) (by omega)]
 exact ⟨(x % 4+1).toNat,by omega,by omega,by omega⟩
theorem AbU {a:HX} (h:TK a) {Q:CH→Prop} (hQ:∀ d:Data,DOk0 d→d.R≤4→d.C≤4→d.room≤4→Q d.p):LG a Q:=by
 unfold LG
 obtain ⟨D,hR,J,W⟩:=h
 refine yP D.2.1 D.2.2.1.1 D.2.2.2.1.1 D.2.2.2.2.1 fun n k q A B M hn hk hq hA O hM V vB vM=>oG ?_
 obtain ⟨R,r1,r2,Z⟩:=mI hR
 obtain ⟨C,c1,Y,U⟩:=mI J
 obtain ⟨G,m1,m2,me⟩:=mI W
 rw [Z,U,me]
 exact hQ ⟨cP a.T.Ring,n,k,q,A,B,M,R,C,G,[]⟩ ⟨Ab2 _,hA,O,hM,V,vB,vM,by show 1≤R∧R≤8; omega,by show 1≤C∧C≤8; omega,by show 1≤G∧G≤64; omega⟩ r2 Y m2
def AbV (R C:Nat):Nat:=(R+C)*(R+C)+2
theorem pI (h:DOk0 d) {Q:Int→Prop} (D:Q ((AbV d.R d.C:Nat):Int)):JU d.p Q:=by
 have hR:=h.R
 have hC:=h.C
 unfold JU
 refine fU h (AC rfl ?_)
 show Q (A7 ((A7 ((A7 ((d.R:Int)+(d.C:Int)))*(A7 ((d.R:Int)+(d.C:Int)))))+2))
 have O:A7 ((d.R:Int)+(d.C:Int))=((d.R+d.C:Nat):Int):=by rw [AJ (by omega) (by omega)]; simp
 have G:(d.R+d.C)*(d.R+d.C)≤16*16:=Nat.mul_le_mul (by omega) (by omega)
 have J:((d.R+d.C:Nat):Int)*((d.R+d.C:Nat):Int)=(((d.R+d.C)*(d.R+d.C):Nat):Int):=by simp
 rw [O,J,AJ (x:=(((d.R+d.C)*(d.R+d.C):Nat):Int)) (by omega) (by omega),AJ (by omega) (by omega)]
 unfold AbV at D
 rw [Int.natCast_add] at D
 exact D
theorem pJ {n:Nat} (g:Nat→Nat→Nat):∀ (L:List (Int×Int)),L.Nodup→(∀ q∈L,∃ f t:Nat,f<n∧t<n∧q=((f:Int),(t:Int))) →
  (L.map fun q=>g q.1.toNat q.2.toNat).sum=MH (fun f=>MH (fun t=>if ((f:Int),(t:Int))∈L then g f t else 0) n) n
 | [],_,_=>by
  have e:MH (fun f:Nat=>MH (fun t:Nat=>if ((f:Int),(t:Int))∈([]:List (Int×Int)) then g f t else 0) n) n=MH (fun _=>0) n:=ER fun i hi=>by
   have:MH (fun t:Nat=>if ((i:Int),(t:Int))∈([]:List (Int×Int)) then g i t else 0) n=MH (fun _=>0) n:=ER fun j U=>by simp
   rw [this,KD]; simp
  rw [e,KD]; simp
 | q :: L,hn,hk=>by
  rw [List.nodup_cons] at hn
  obtain ⟨f,t,J,O,rfl⟩:=hk q List.mem_cons_self
  have D:=pJ g L hn.2 fun q G=>hk q (List.mem_cons_of_mem _ G)
  have h:=WT (g:=fun j:Nat=>if ((f:Int),(j:Int))∈L then g f j else 0) (g':=fun j:Nat=>if ((f:Int),(j:Int))∈((f:Int),(t:Int)) :: L then g f j else 0) O (fun i hi=>by
   have:¬((f:Int),(i:Int))=((f:Int),(t:Int)):=by simp; omega
   simp only [List.mem_cons,this,false_or])
  have h2:=WT (g:=fun i:Nat=>MH (fun j:Nat=>if ((i:Int),(j:Int))∈L then g i j else 0) n) (g':=fun i:Nat=>MH (fun j:Nat=>if ((i:Int),(j:Int))∈((f:Int),(t:Int)) :: L then g i j else 0) n) J (fun i hi=>ER fun j U=>by
   have:¬((i:Int),(j:Int))=((f:Int),(t:Int)):=by simp; omega
   simp only [List.mem_cons,this,false_or])
  rw [if_neg hn.1] at h
  rw [if_pos List.mem_cons_self] at h
  rw [List.map_cons,List.sum_cons,D]
  simp only [Int.toNat_natCast]
  omega
theorem pK (h:Rep c m o0 o1 o2) (hb:KZ c m≤1000000000) {Q:Int→Prop} (hQ:Q (KZ c m:Int)):EG o0 o2 Q:=by
 have O:(o0.boxes.map fun p=>(m.bx p.1.1.toNat p.1.2.toNat).fs.length).sum=KZ c m:=by
   have:=pJ (n:=c.n) (fun f t=>(m.bx f t).fs.length) (o0.boxes.map fun p:(Int×Int)×Option Nat=>p.1) h.ks h.kr
   rw [List.map_map] at this
   rw [show (o0.boxes.map fun p=>(m.bx p.1.1.toNat p.1.2.toNat).fs.length)=o0.boxes.map ((fun q:Int×Int=>(m.bx q.1.toNat q.2.toNat).fs.length)∘(·.1)) from rfl,this]
   unfold KZ
   refine ER fun f hf=>ER fun t ht=>?_
   split
   · rfl
   · rename_i Y
     rw [h.no f t (WD Y)]; rfl
 unfold EG
 refine BT (fun j (x:(List ((Int×Int)×(Option Nat)))×Int)=>∃ dn:List ((Int×Int)×(Option Nat)),o0.boxes.Perm (dn++x.1)∧x.2=((dn.map fun p=>(m.bx p.1.1.toNat p.1.2.toNat).fs.length).sum:Nat)∧x.1.length=j) (m0:=o0.boxes.length) ⟨[],by simp,by simp,rfl⟩ ?_
 rintro j ⟨rest,acc⟩ next ⟨dn,hp,G,hj⟩ hnext
 simp only at hp G hj
 refine cN (fun hr=>?_) (fun p r W=>?_)
 · subst hr
   rw [List.append_nil] at hp
   rw [G,← (hp.map _).sum_nat,O]
   exact hQ
 · have U:o0.boxes.Perm ((dn++[p])++r):=hp.trans (by rw [List.append_assoc]; exact (List.Perm.refl dn).append W)
   have J:p∈o0.boxes:=U.mem_iff.2 (by simp)
   obtain ⟨f,t,hf,ht,Z⟩:=h.kr p.1 (List.mem_map_of_mem J)
   have D:BK ((f:Int),(t:Int)) o0.boxes=some p.2:=(HH h.ks).2 (by rw [←Z]; exact J)
   have V:((dn++[p]).map fun p=>(m.bx p.1.1.toNat p.1.2.toNat).fs.length).sum=(dn.map fun p=>(m.bx p.1.1.toNat p.1.2.toNat).fs.length).sum+(m.bx f t).fs.length:=by
     rw [List.map_append,List.sum_append,List.map_singleton,Z]; simp
   have hle:((dn++[p]).map fun p=>(m.bx p.1.1.toNat p.1.2.toNat).fs.length).sum≤KZ c m:=by
     have e3:=(U.map fun p=>(m.bx p.1.1.toNat p.1.2.toNat).fs.length).sum_nat
     rw [O,List.map_append (l₁:=dn++[p]) (l₂:=r),List.sum_append] at e3
     omega
   unfold NP
   cases hv:p.2 with
   | none=>rw [hv] at D; exact absurd D (h.nn _)
   | some b=>
     rw [hv] at D
     obtain ⟨pb,g1,g2⟩:=h.bx f t b D
     rw [FC,JD g1]
     refine AbK g2 ?_
     refine hnext r.length _ ?_ ⟨dn++[p],U,?_,rfl⟩
     · have:=W.length_eq; simp at this; omega
     · simp only
       rw [V,G,AJ (by omega) (by omega)]; simp
end Go.Proofs.YtbohadngdkjljaaGreat
