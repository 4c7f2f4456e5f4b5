import Derived.Test.YtbohadngdkjljaaGreatSumO
namespace Go.Proofs.YtbohadngdkjljaaGreat
open Go Go.Fw
set_option linter.unusedVariables false
set_option linter.unusedSimpArgs false
def vZ:List A3:=[⟨0,1,3⟩,⟨1,0,5⟩]
def AbW:List A3:=[⟨0,0,15⟩,⟨1,1,15⟩]
def U3:List AX:=[⟨0,1,0,0⟩,⟨1,2,1,0⟩]
def RZ:Data:=⟨5,2,2,2,vZ,vZ,SZ 2 2,2,1,1,[]⟩
theorem YF:Canon 2 2 vZ:=⟨by decide,by decide,by decide,by decide,by decide,by unfold Srt; decide,by decide⟩
theorem YG:Canon 2 2 AbW:=⟨by decide,by decide,by decide,by decide,by decide,by unfold Srt; decide,by decide⟩
theorem WW:∀ t∈vZ,GN t.Val:=fun t h=>by
 unfold vZ at h
 simp only [List.mem_cons,List.not_mem_nil,or_false] at h
 rcases h with rfl | rfl <;> (unfold GN; decide)
theorem Ad7:DOk0 RZ:=⟨by decide,YF,YF,cR (n:=2) (m:=2) (by decide) (by decide),WW,WW,fun t h=>by rw [(bP h).2]; unfold GN; omega,by decide,by decide,by decide⟩
theorem Aa3 {S:List AX} (h:SegSp 2 2 1 2 S) (J:S.length+1≤3):S=U3:=by
 have l0:BS 2 ((2:Nat):Int) 0=0:=by decide
 have U:BS 2 ((2:Nat):Int) 1=1:=by decide
 have D:BS 2 ((2:Nat):Int) (0+1)=1:=by decide
 match S,h,J with
 | [],h,_=>exact absurd h.top (by decide)
 | [x],h,_=>
  exfalso
  have t:x.To=2:=h.top
  have r:=h.row 0 (by simp)
  have lo:=(h.lo 0 (by simp)).1
  simp only [List.getElem_cons_zero] at r lo
  have lo:x.From=0:=lo
  rcases (by omega:x.Row=0∨x.Row=1) with e | e
  · rw [e,D] at r; omega
  · rw [e,U] at r; omega
 | [x,y],h,_=>
  have t:y.To=2:=h.top
  have r:=h.row 0 (by simp)
  have O:=h.row 1 (by simp)
  have q:=h.col 0 (by simp)
  have V:=h.col 1 (by simp)
  have lo:=h.lo 0 (by simp)
  have G:=h.lo 1 (by simp)
  simp only [List.getElem_cons_zero,List.getElem_cons_succ] at r O q V lo G
  have f1:x.From=0:=lo.1
  have f2:y.From=x.To:=G.1
  have W:x.Row=0:=by
    rcases (by omega:x.Row=0∨x.Row=1) with e | e
    · exact e
    · rw [e,U] at r; omega
  have e2:y.Row=1:=by
    rcases (by omega:y.Row=0∨y.Row=1) with e | e
    · rw [e,D] at O; omega
    · exact e
  rw [W,D] at r
  obtain ⟨xf,xt,xr,xc⟩:=x
  obtain ⟨yf,yt,yr,yc⟩:=y
  simp only at *
  unfold U3
  simp only [List.cons.injEq,AX.mk.injEq,and_true]
  omega
 | x :: y :: z :: r,_,J=>simp at J
theorem Ad8:QN 5 2 2 (iA RZ)=(B0 2 2 AbW,0):=by decide
theorem wA {n m:Nat} {Q:Rows→Prop} (hn:n≤13) (V:m≤13) (W:Q (B0 n m (SZ n m))):TI n m Q:=by
 unfold TI
 have J:∀ t∈SZ n m,GN t.Val:=fun t Y=>by rw [(bP Y).2]; unfold GN; omega
 have G:=cR (show n≤200 by omega) (show m≤200 by omega)
 refine B2 (fun (s:List A3) i=>(s,i)) 0 n (by omega) (fun i s=>s=SZ i m) (by omega) rfl (fun i s next _ hi D Z=>?_) (fun s next D=>?_)
 · subst D
   refine A0 (fun _=>?_) (fun h=>by omega)
   refine B2 (fun (s:List A3) i=>(s,i)) 0 m (by omega) (fun j s=>s=SZ i m++XK i j) (by omega) (by simp [XK]) (fun j s O _ hj D U=>?_) (fun s O D=>?_)
   · subst D
     refine A0 (fun _=>AR ?_ (U _ ?_)) (fun h=>by omega)
     · have h1:=Nat.mul_le_mul (show i≤13 by omega) V
       rw [List.length_append,bO,XK,List.length_map,List.length_range,List.length_singleton]
       omega
     · rw [rJ,List.append_assoc]
   · subst D
     refine A0 (fun h=>by omega) (fun _=>Z _ ?_)
     rw [fE]
 · subst D
   refine A0 (fun h=>by omega) (fun _=>PT (by have:=G.len; omega) J ?_)
   rw [WP G J (by omega)]
   exact W
theorem Ad9 (adr:Nat→Nat):(hZ ((RZ.wS U3).ctx adr) (AbV 2 1) (init (RZ.wS U3))).ended ((RZ.wS U3).ctx adr)=true:=by kernel_rfl
theorem wC {Q:Bool→Prop} (hQ:Q true):TJ Q:=by
 unfold TJ
 refine PT (by decide) WW ?_
 rw [show ([({ Row:=0,Col:=1,Val:=3 }:A3),({ Row:=1,Col:=0,Val:=5 }:A3)]:List A3)=vZ from rfl,WP YF WW (by decide)]
 refine wA (n:=2) (m:=2) (by decide) (by decide) ?_
 have h0:=Ad7
 show EV [] [] RZ.p _ _
 refine mH h0 fun S ads bk hS h V O=>?_
 have U:S=U3:=Aa3 hS (by have:=h.seg.len; exact this)
 subst U
 generalize hcc:((RZ.wS U3).ctx fun i=>ads.getD i 0)=c at V O
 have hrk:Rk c:=by rw [←hcc]; exact zY h _
 have hg:Good c (init (RZ.wS U3)):=by rw [←hcc]; exact cC h _
 have D:c.n=2:=by rw [←hcc]; rfl
 have Z:c.S=U3:=by rw [←hcc]; rfl
 refine mB V hrk O hg fun b0 b1 b2 hb _=>?_
 have W:(init (RZ.wS U3)).act c { Kind:=1,A:=0,B:=0,K:=0 }=(init (RZ.wS U3)).send c 0:=by
   unfold MS.act
   rw [if_neg (by decide),if_pos rfl,if_pos ⟨by decide,by rw [D]; decide⟩]
   rfl
 have hg2:=hg.acted V { Kind:=1,A:=0,B:=0,K:=0 }
 rw [W] at hb hg2 ⊢
 have hs:=uD (c:=c) (m:=init (RZ.wS U3)) (k:=0) (t:=0) (f:=mF (RZ.wS U3) 0 0 0) (r:=[mG (RZ.wS U3) 0 0 0,mG (RZ.wS U3) 0 0 1,mF (RZ.wS U3) 0 1 0]) (by decide) (by decide) (by decide)
 rw [hs] at hb hg2 ⊢
 refine uE V hb (f:=0) (t:=0) (by rw [D]; decide) (by rw [D]; decide) fun e0 e2 G _=>?_
 show JU RZ.p _
 refine pI h0 ?_
 show PS RZ.p [] ((AbV 2 1:Nat):Int) _
 refine Ad6 h0 (by simp) (fun x hx=>absurd hx List.not_mem_nil) (by decide) (fun S ads hS h _=>?_) ?_
 · have U:S=U3:=Aa3 hS (by have:=h.seg.len; exact this)
   subst U
   exact Ad9 _
 have hd:QN RZ.r RZ.n RZ.q (iA RZ)=(B0 2 2 AbW,0):=Ad8
 rw [hd]
 refine eZ YG.sml (D8 YG) YG ?_
 have Y:oA AbW 0 0=(15,true):=by decide
 rw [Y]
 unfold EV HT
 refine LW (AY rfl (AY rfl ?_))
 unfold GZ
 refine AY rfl (AY rfl (AY rfl ?_))
 unfold DW
 rw [G.S,Z]
 refine AY rfl ?_
 refine pK G (by unfold KZ; rw [D]; decide) ?_
 have e1:KZ c (EX (DL (init (RZ.wS U3)) 0 0 { (init (RZ.wS U3)).bx 0 0 with row:=((init (RZ.wS U3)).bx 0 0).row++[((init (RZ.wS U3)).bx 0 0).fs.length],fs:=((init (RZ.wS U3)).bx 0 0).fs++[{ mF (RZ.wS U3) 0 0 0 with Seq:=((init (RZ.wS U3)).bx 0 0).fs.length }] }) 0 { (init (RZ.wS U3)).w 0 with out:=[mG (RZ.wS U3) 0 0 0,mG (RZ.wS U3) 0 0 1,mF (RZ.wS U3) 0 1 0] })=1:=by unfold KZ; rw [D]; decide
 dsimp only at e1 G ⊢
 rw [e1]
 refine AY rfl ?_
 refine aC V G ?_
 have e2:MS.ended c (EX (DL (init (RZ.wS U3)) 0 0 { (init (RZ.wS U3)).bx 0 0 with row:=((init (RZ.wS U3)).bx 0 0).row++[((init (RZ.wS U3)).bx 0 0).fs.length],fs:=((init (RZ.wS U3)).bx 0 0).fs++[{ mF (RZ.wS U3) 0 0 0 with Seq:=((init (RZ.wS U3)).bx 0 0).fs.length }] }) 0 { (init (RZ.wS U3)).w 0 with out:=[mG (RZ.wS U3) 0 0 0,mG (RZ.wS U3) 0 0 1,mF (RZ.wS U3) 0 1 0] })=false:=by unfold MS.ended; rw [D,Z]; decide
 dsimp only at e2
 rw [e2]
 refine AY rfl (AY rfl (AY rfl (AY rfl (AY rfl (AY rfl (AY rfl ?_))))))
 show JU RZ.p _
 refine pI h0 (AY rfl ?_)
 refine ZZ G ?_
 rw [if_pos ⟨by decide,by rw [D]; decide⟩]
 refine AY (by decide) ?_
 refine pD G (k:=0) (by rw [D]; decide) ?_
 refine AY (by decide) ?_
 have J:=fU h0 (Q:=fun r=>Q (r==0)) hQ
 unfold HT at J
 exact J
variable {d:Data}
theorem dZ (g g':Nat→Nat):∀ n,MH (fun i=>g i+g' i) n=MH g n+MH g' n
 | 0=>rfl
 | n+1=>by unfold MH; rw [dZ g g' n]; omega
theorem kD (g:Nat→Nat) (a:Nat):∀ b,MH g (a+b)=MH g a+MH (fun i=>g (a+i)) b
 | 0=>rfl
 | b+1=>by show MH g (a+b)+g (a+b)=_; rw [kD g a b]; show _=_+(_+g (a+b)); omega
theorem fW {C:Nat} (F:Nat→Nat→Nat) (D:0<C):∀ R,MH (fun k=>F (k / C) (k % C)) (R*C)=MH (fun i=>MH (fun j=>F i j) C) R
 | 0=>by simp [MH]
 | R+1=>by
  rw [Nat.succ_mul,kD,fW F D R]
  show _=_+_
  congr 1
  refine ER fun j h=>?_
  have:=PX (i:=R) h
  rw [this.1,this.2]
theorem mJ {a:Nat} (b:Nat):∀ {n:Nat},a<n→MH (fun i=>if i=a then b else 0) n=b
 | 0,h=>by omega
 | n+1,h=>by
  unfold MH
  by_cases e:a=n
  · subst e
    rw [ER (g:=fun _=>0) fun i hi=>if_neg (by omega),KD,if_pos rfl]; simp
  · rw [mJ b (n:=n) (by omega),if_neg (by omega)]; rfl
theorem Aa4 (h:SM d) {s:Nat} (G:s<d.S.length):MH (fun w=>(KK d w s++N3 d w s).length) (d.R*d.C)=2*(d.R*d.C):=by
 have hR:=h.R
 have hC:=h.C
 have D:d.S.getD s default=d.S[s]:=by simp [List.getD_eq_getElem?_getD,G]
 have J:=h.seg.row s G
 have O:=h.seg.col s G
 have e:MH (fun w=>(KK d w s++N3 d w s).length) (d.R*d.C)=MH (fun w=>(if w % d.C=d.S[s].Col.toNat then d.C else 0)+(if w / d.C=d.S[s].Row.toNat then d.R else 0)) (d.R*d.C):=ER fun w _=>by
  rw [List.length_append]
  congr 1
  · unfold KK
    rw [D]
    by_cases e:w % d.C=d.S[s].Col.toNat
    · rw [if_pos e,if_pos (by omega)]; simp
    · rw [if_neg e,if_neg (by omega)]; rfl
  · unfold N3
    rw [D]
    by_cases e:w / d.C=d.S[s].Row.toNat
    · rw [if_pos e,if_pos (by omega)]; simp
    · rw [if_neg e,if_neg (by omega)]; rfl
 rw [e,fW (fun i j=>(if j=d.S[s].Col.toNat then d.C else 0)+(if i=d.S[s].Row.toNat then d.R else 0)) (by omega)]
 have U:MH (fun i=>MH (fun j=>(if j=d.S[s].Col.toNat then d.C else 0)+(if i=d.S[s].Row.toNat then d.R else 0)) d.C) d.R=MH (fun i=>d.C+(if i=d.S[s].Row.toNat then d.C*d.R else 0)) d.R:=ER fun i _=>by
  rw [dZ,mJ d.C (by omega),KD]
  split
  · rfl
  · simp
 rw [U,dZ,KD,mJ (d.C*d.R) (by omega),Nat.mul_comm d.C d.R]
 omega
theorem wD (h:SM d) (adr:Nat→Nat):aB (d.ctx adr) (init d)=2*(d.R*d.C)*d.S.length:=by
 have key:∀ t,t≤d.S.length→MH (fun w=>(OS d w t).length) (d.R*d.C)=2*(d.R*d.C)*t:=by
  intro t
  induction t with
  | zero=>
   intro _
   have e:MH (fun w=>(OS d w 0).length) (d.R*d.C)=MH (fun _=>0) (d.R*d.C):=ER fun _ _=>rfl
   rw [e,KD]; simp
  | succ t D=>
   intro ht
   rw [ER (g:=fun w=>(OS d w t).length+(KK d w t++N3 d w t).length) fun i _=>by rw [WV,List.length_append],dZ,D (by omega),Aa4 h (by omega)]
   rw [Nat.mul_succ]
 exact key d.S.length (Nat.le_refl _)
theorem U4 {x n:Int} (hn:1≤n) {Q:Int→Prop} (D:∀ y,0≤y→y<n→Q y):HY x n Q:=by
 unfold HY
 refine A0 (fun h=>by omega) fun _=>A0 (fun _=>D 0 (by omega) (by omega)) fun h=>⟨by omega,?_⟩
 rw [Int.tmod_eq_emod_of_nonneg (by omega)]
 exact D _ (Int.emod_nonneg _ (by omega)) (Int.emod_lt_of_pos _ (by omega))
structure AcG (n:Int) (l:List FP):Prop where
 len:l.length≤120
 mv:∀ x∈l,hU x=true
 ab:∀ x∈l,(0≤x.A∧x.A<n)∧(0≤x.B∧x.B<n)
theorem wE {a:GF} {n:Int} (G:1≤n∧n≤64) {Q:List FP→Prop} (J:∀ l,AcG n l→Q l):I5 a n Q:=by
 unfold I5
 refine BT (fun j (x:List FP×Int)=>∃ i:Nat,x.2=(i:Int)∧x.1.length=i∧i+j=120∧AcG n x.1) (m0:=120) ⟨0,rfl,rfl,rfl,by decide,fun x h=>absurd h (List.not_mem_nil),fun x h=>absurd h (List.not_mem_nil)⟩ ?_
 rintro j ⟨l,ix⟩ next ⟨i,hi,O,hj,D⟩ hnext
 simp only at hi O D
 subst hi
 show AD (decide ((i:Int)<(a.L.length:Int))) _ _
 refine A0 (fun h1=>A0 (fun h2=>?_) (fun _=>J l D)) (fun _=>J l D)
 refine AK (by omega) (U4 (by omega) fun k k0 k1=>U4 G.1 fun A a0 a1=>U4 G.1 fun B U W=>U4 (by omega) fun K V q1=>AR (by simp; omega) ?_)
 have Z:A7 ((i:Int)+1)=((i+1:Nat):Int):=by rw [AJ (by omega) (by omega)]; simp
 have Y:A7 (k+1)=k+1:=AJ (by omega) (by omega)
 rw [Z,Y]
 refine hnext (j - 1) _ (by omega) ⟨i+1,rfl,by simp [O],by omega,⟨by simp; omega,fun x h=>?_,fun x h=>?_⟩⟩
 · rcases List.mem_append.1 h with h | h
   · exact D.mv x h
   · rw [List.mem_singleton] at h; subst h
     unfold hU
     exact decide_eq_true ⟨a0,by dsimp only; omega,U,by dsimp only; omega,V,by dsimp only; omega,by dsimp only; omega,by dsimp only; omega⟩
 · rcases List.mem_append.1 h with h | h
   · exact D.ab x h
   · rw [List.mem_singleton] at h; subst h
     exact ⟨⟨a0,a1⟩,U,W⟩
variable {s:Abs} {o:B3}
structure pL (s:Abs):Prop where
 lt:∀ n∈s.row,n<s.fs.length
 seq:∀ (i:Nat) (f:AO),s.fs[i]? = some f→f.Seq=i∧TY f
 rlen:s.row.length≤s.room
 r64:s.room≤64
 flen:s.fs.length≤100000
 tk:s.taken≤s.fs.length
def Abs.L (s:Abs):List AO:=s.row.map fun n=>s.fs.getD n zf
structure YH (o:B3) (s:Abs):Prop where
 many:o.Many=s.room
 out:o.Out=s.fs.length
 inn:o.In=s.taken
 l:o.L=s.L
theorem XO (s:Abs):s.L.length=s.row.length:=by simp [Abs.L]
theorem pM (h:pL s) {i:Nat} (hi:i<s.row.length):∃ f,s.L[i]? = some f∧f=s.fs.getD s.row[i] zf∧f.Seq=s.row[i]∧TY f:=by
 have D:=h.lt _ (List.getElem_mem hi)
 have G:=h.seq _ _ (List.getElem?_eq_getElem D)
 have e:s.fs.getD s.row[i] zf=s.fs[s.row[i]]:=by simp [D]
 exact ⟨_,by simp [Abs.L,hi],rfl,by rw [e]; exact G.1,by rw [e]; exact G.2⟩
theorem uH {f:AO} {Q:AO→Prop} (h:TY f) (J:Q f):SW f Q:=by
 obtain ⟨G,D,U⟩:=h
 unfold SW
 obtain ⟨K,F,T,S,R,⟨VN,VI⟩,Su,Tr,N,O⟩:=f
 simp only at G D U
 subst G D
 exact AR (by simp) (AR (by simp) (AR (by simp only [List.length_nil]; omega) J))
theorem mK {k:Int} {Q:Int→Prop} (r:YH o s) (h:Q (s.at k)):F9 o k Q:=by
 unfold F9
 rw [r.l,XO]
 unfold Abs.at at h
 refine A0 (fun D=>?_) (fun D=>A0 (fun G=>?_) (fun G=>?_))
 · rwa [if_pos D] at h
 · rwa [if_neg D,if_pos G] at h
 · rwa [if_neg D,if_neg G] at h
theorem WX (s:Abs):s.fullB=true↔(s.room:Int)≤(s.row.length:Int):=by unfold Abs.fullB; simp
theorem Aa5 {f:AO} {Q:(Int×B3)→Prop} (h:pL s) (r:YH o s) (W:TY f) (J:∀ o',YH o' (s.send f).2→Q ((s.send f).1,o')):I8 o f Q:=by
 unfold I8
 have Y:=h.rlen
 have Z:=h.r64
 have V:=h.flen
 rw [r.many,r.l,XO]
 refine A0 (fun O=>?_) (fun O=>?_)
 · have G:s.fullB=true:=(WX s).2 O
   have:=J o; unfold Abs.send at this; rw [if_pos G] at this; exact this r
 · have G:s.fullB=false:=by
     cases e:s.fullB with
     | false=>rfl
     | true=>exact absurd ((WX s).1 e) O
   rw [U1 _ G] at J
   have D:=r.out
   refine uH W (AR (by rw [XO]; simp; omega) (J _ ⟨rfl,?_,r.inn,?_⟩))
   · simp only [List.length_append,List.length_singleton]; rw [D,AJ (by omega) (by omega)]; simp
   · simp only [Abs.L,List.map_append,List.map_singleton]
     rw [D]
     congr 1
     · refine List.map_congr_left fun n U=>?_
       have:=h.lt n U
       simp [List.getElem?_append_left this]
     · simp
theorem rY {k:Int} {Q:(Int×B3)→Prop} (h:pL s) (r:YH o s) (D:∀ o',YH o' (s.double k).2→Q ((s.double k).1,o')):GJ o k Q:=by
 unfold GJ
 have W:=h.rlen
 have Z:=h.r64
 refine mK r (CK (fun G=>?_) (fun G=>?_))
 · have:=D o; unfold Abs.double at this; rw [if_pos G] at this; exact this r
 · unfold Abs.double at D
   rw [if_neg (by rw [G]; simp)] at D
   rw [r.many,r.l,XO]
   refine A0 (fun V=>?_) (fun V=>?_)
   · have:=D o; rw [if_pos ((WX s).2 V)] at this; exact this r
   · rw [if_neg (fun e=>V ((WX s).1 e))] at D
     obtain ⟨i,rfl,hi⟩:=LL G
     rw [N2 hi] at D
     obtain ⟨f,U,O,Y,J⟩:=pM h hi
     refine A9 (by omega) (x:=f) (by simpa using U) (uH J (AR (by rw [XO]; simp; omega) (D _ ⟨rfl,r.out,r.inn,?_⟩)))
     simp only
     rw [O]
     simp [Abs.L]
theorem fX {i:Nat} {Q:(AO×B3)→Prop} (h:pL s) (r:YH o s) (hi:i<s.row.length) (V:∀ f o',f=s.fs.getD s.row[i] zf→f.Seq=s.row[i]→YH o' { s with row:=s.row.eraseIdx i }→Q (f,o')):F3 o (i:Int) Q:=by
 unfold F3
 have W:=h.rlen
 have Z:=h.r64
 obtain ⟨f,J,D,G,U⟩:=pM h hi
 have O:=XO s
 have Y:A7 ((i:Int)+1)=((i+1:Nat):Int):=by rw [AJ (by omega) (by omega)]; simp
 rw [Y,r.l]
 refine A9 (by omega) (x:=f) (by simpa using J) ⟨by omega,by omega,by omega,AR ?_ ⟨by omega,by omega,by omega,AR ?_ (V _ _ D G ⟨r.many,r.out,r.inn,?_⟩)⟩⟩
 · simp; omega
 · simp; omega
 · show _=(s.row.eraseIdx i).map fun n=>s.fs.getD n zf
   rw [←O5,List.eraseIdx_eq_take_drop_succ]
   show _=s.L.take i++s.L.drop (i+1)
   simp [←O]
theorem Aa6 {k:Int} {Q:(Int×B3)→Prop} (h:pL s) (r:YH o s) (D:∀ o',YH o' (s.move k).2→Q ((s.move k).1,o')):IB o k Q:=by
 unfold IB
 have U:=h.rlen
 have V:=h.r64
 refine mK r (CK (fun J=>?_) (fun J=>?_))
 · have:=D o; unfold Abs.move at this; rw [if_pos J] at this; exact this r
 · unfold Abs.move at D
   rw [if_neg (by rw [J]; simp)] at D
   obtain ⟨i,rfl,hi⟩:=LL J
   rw [N2 hi] at D
   simp only [Int.toNat_natCast] at D
   refine fX h r hi fun f o' O _ G=>AR ?_ (D _ ⟨G.many,G.out,G.inn,?_⟩)
   · rw [G.l,XO]; simp only [List.length_eraseIdx]; split <;> (simp; omega)
   · simp only
     rw [G.l,O]
     simp [Abs.L]
theorem Aa7 {k:Int} {Q:(AO×Bool×Int×B3)→Prop} (h:pL s) (r:YH o s) (D:∀ o',YH o' (s.take k).2.2.2→Q ((s.take k).1,(s.take k).2.1,(s.take k).2.2.1,o')):I9 o k Q:=by
 unfold I9
 refine mK r (CK (fun O=>?_) (fun O=>?_))
 · have:=D o; unfold Abs.take at this; rw [if_pos O] at this; exact this r
 · unfold Abs.take at D
   rw [if_neg (by rw [O]; simp)] at D
   obtain ⟨i,rfl,hi⟩:=LL O
   rw [N2 hi] at D
   have hlt:=h.lt _ (List.getElem_mem hi)
   have hfl:=h.flen
   have W:=r.inn
   obtain ⟨f,Z,hf2,U,hf4⟩:=pM h hi
   rw [r.l,W]
   refine A9 (by omega) (x:=f) (by simpa using Z) ?_
   rw [U]
   refine A0 (fun h1=>?_) (fun h1=>fX h r hi fun g o' Y V J=>?_)
   · have:=D o; rw [if_pos (by omega)] at this; exact this r
   · rw [if_neg (by omega)] at D
     simp only [Int.toNat_natCast] at D
     have G:=J.inn
     simp only at G
     rw [V,G]
     refine A0 (fun h2=>?_) (fun h2=>?_)
     · have:=D o'
       rw [if_pos (by omega)] at this
       exact this J
     · rw [if_neg (by omega)] at D
       rw [Y]
       refine D _ ⟨J.many,J.out,?_,J.l⟩
       have:=h.tk
       simp only; rw [AJ (by omega) (by omega)]; simp
theorem rZ {Q:Int→Prop} (h:pL s) (r:YH o s) (Y:Q s.oldest):GK o Q:=by
 unfold GK
 have hrl:=h.rlen
 have h64:=h.r64
 have hll:=XO s
 rw [r.l]
 refine DE (fun t:Int×Int=>∃ i:Nat,t.2=i∧i≤s.row.length∧(i=0∧t.1 = -1∨∃ (j:Nat) (W:j<s.row.length),t.1=j∧j<i∧(∀ (m:Nat) (J:m<s.row.length),m<i→s.row[j]≤s.row[m])∧∀ (m:Nat) (J:m<s.row.length),m<j→s.row[m]≠s.row[j])) (fun t=>s.row.length - t.2.toNat) ⟨0,rfl,by omega,.inl ⟨rfl,rfl⟩⟩ ?_
 rintro ⟨t1,t2⟩ next ⟨i,hi,hil,Z⟩ hnext
 simp only at hi Z
 subst hi
 have ew:i<s.row.length→A7 ((i:Int)+1)=((i+1:Nat):Int):=fun hlt=>by rw [AJ (by omega) (by omega)]; simp
 rw [XO]
 refine A0 (fun hlt=>?_) (fun hge=>?_)
 · have O:i<s.row.length:=by omega
   rw [ew O]
   refine A0 (fun hneg=>?_) (fun hpos=>?_)
   · rcases Z with ⟨h0,_⟩ | ⟨j,W,V,_⟩
     · subst h0
       refine hnext _ ⟨1,rfl,by omega,.inr ⟨0,O,rfl,by omega,fun m J U=>?_,fun m J U=>by omega⟩⟩ (by simp only; omega)
       have:m=0:=by omega
       subst this; exact Nat.le_refl _
     · omega
   · rcases Z with ⟨h0,h1⟩ | ⟨j,W,V,hji,G,D⟩
     · omega
     · subst V
       obtain ⟨f,hf1,_,hf3,_⟩:=pM h O
       obtain ⟨g,hg1,_,hg3,_⟩:=pM h W
       refine A9 (by omega) (x:=f) (by simpa using hf1) (A9 (by omega) (x:=g) (by simpa using hg1) ?_)
       rw [hf3,hg3]
       refine A0 (fun hless=>hnext _ ⟨i+1,rfl,by omega,.inr ⟨i,O,rfl,by omega,fun m J U=>?_,fun m J U e=>?_⟩⟩ (by simp only; omega)) (fun hnl=>hnext _ ⟨i+1,rfl,by omega,.inr ⟨j,W,rfl,by omega,fun m J U=>?_,D⟩⟩ (by simp only; omega))
       · by_cases e:m=i
         · subst e; exact Nat.le_refl _
         · have:=G m J (by omega); omega
       · have:=G m J (by omega); omega
       · by_cases e:m=i
         · subst e; omega
         · exact G m J (by omega)
 · have:i=s.row.length:=by omega
   subst this
   unfold Abs.oldest at Y
   rcases Z with ⟨h0,h1⟩ | ⟨j,W,V,hji,G,D⟩
   · rw [if_pos h0] at Y; rw [h1]; exact Y
   · rw [if_neg (by omega),jT W (fun n hn=>?_) (fun m J hml=>D m hml J)] at Y
     · rw [V]; exact Y
     · obtain ⟨m,J,rfl⟩:=List.getElem_of_mem hn
       exact G m J J
theorem Aa8 {c:SK} {m:MS} {N:Nat} (O:VL c) (g:Good c m) (h:Live c N m) {f t:Nat} (D:f<c.n) (G:t<c.n):pL (m.bx f t):=by
 have hr:=g.room f t D G
 have hl:=g.cnt f t D G
 have U:=O.r64
 exact ⟨(h.bx f t D G).lt,fun i q J=>⟨g.seq f t D G i q J,vT (g.box f t D G q (List.mem_of_getElem? J)).1⟩,by omega,by omega,by omega,(h.bx f t D G).tk⟩
structure Aa9 (c:SK) (k:Nat) (a:Wk) (x:AQ):Prop where
 i:x.I=c.wi k
 j:x.J=c.wj k
 mask:x.Mask=c.mask k
 out:x.Out=a.out
 at_:x.At=(a.at_:Int)
 le:a.at_≤c.S.length
 has:x.Has=c.has k a.at_
 l:∀ s,s<c.S.length→x.Lefts[s]? = some (a.gl s)∧∃ y,x.L[s]? = some y∧(a.gl s=true→y=c.LA k s)
 r:∀ s,s<c.S.length→x.Rights[s]? = some (a.gr s)∧∃ y,x.R[s]? = some y∧(a.gr s=true→y=c.RB k s)
structure RepR (c:SK) (ra rb:Nat→Nat) (m:MS) (o:AM) (o3:A4) (o4:AA):Prop where
 p:o.P=c.p
 S:o.S=c.S
 ws:o.W=(List.range c.n).map fun k=>some (ra k)
 bs:o.B=(List.range (c.n*c.n)).map fun k=>some (rb k)
 wk:∀ k<c.n,∃ x,BK (ra k) o3=some x∧Aa9 c k (m.w k) x
 bx:∀ f t,f<c.n→t<c.n→∃ pb,BK (rb (f*c.n+t)) o4=some pb∧YH pb (m.bx f t)
 ia:∀ i j,i<c.n→j<c.n→ra i=ra j→i=j
 ib:∀ i j,i<c.n*c.n→j<c.n*c.n→rb i=rb j→i=j
variable {c:SK} {m:MS} {N:Nat} {ra rb:Nat→Nat} {o:AM} {o3 o3x:A4} {o4 o4x:AA}
theorem RepR.len (h:RepR c ra rb m o o3 o4):o.W.length=c.n:=by rw [h.ws]; simp
theorem RepR.get (h:RepR c ra rb m o o3 o4) {k:Nat} (hk:k<c.n):o.W[((k:Int)).toNat]? = some (some (ra k)):=by
 rw [h.ws]; simp [hk]
theorem aI {n f t:Nat} (h:f<n) (ht:t<n):f*n+t<n*n:=by
 have:(f+1)*n≤n*n:=Nat.mul_le_mul_right _ h
 rw [Nat.succ_mul] at this; omega
theorem AaA {n f t G D:Nat} (U:t<n) (h:D<n) (e:f*n+t=G*n+D):f=G∧t=D:=by
 have J:=PX (C:=n) (i:=f) U
 have O:=PX (C:=n) (i:=G) h
 rw [e] at J
 exact ⟨J.1.symm.trans O.1,J.2.symm.trans O.2⟩
theorem RepR.setB (h:RepR c ra rb m o o3 o4) {f t:Nat} (Z:f<c.n) (W:t<c.n) {O:B3} {a:Abs} (hi:YH O a):RepR c ra rb (DL m f t a) o o3 ((rb (f*c.n+t),O) :: BM (rb (f*c.n+t)) o4):=by
 refine ⟨h.p,h.S,h.ws,h.bs,h.wk,fun V U G D=>?_,h.ia,h.ib⟩
 by_cases e:V=f∧U=t
 · obtain ⟨rfl,rfl⟩:=e
   exact ⟨O,WR,by simpa [DL] using hi⟩
 · obtain ⟨J,h1,Y⟩:=h.bx V U G D
   refine ⟨J,?_,by simpa [DL,if_neg e] using Y⟩
   rw [TZ fun e'=>e (AaA D W (h.ib _ _ (aI G D) (aI Z W) e'))]; exact h1
theorem RepR.setW (h:RepR c ra rb m o o3 o4) {k:Nat} (hk:k<c.n) {a:Wk} {x:AQ} (J:Aa9 c k a x):RepR c ra rb (EX m k a) o ((ra k,x) :: BM (ra k) o3) o4:=by
 refine ⟨h.p,h.S,h.ws,h.bs,fun i hi=>?_,h.bx,h.ia,h.ib⟩
 by_cases e:i=k
 · subst e; exact ⟨x,WR,by simpa [EX] using J⟩
 · obtain ⟨y,O,D⟩:=h.wk i hi
   exact ⟨y,by rw [TZ fun G=>e (h.ia _ _ hi hk G)]; exact O,by simpa [EX,e] using D⟩
theorem aJ (V:VL c) (h:RepR c ra rb m o o3 o4) {f t:Nat} (O:f<c.n) (U:t<c.n) {W:Unit→Prop} {G:Option Nat→Prop} (J:G (some (rb (f*c.n+t)))):BX o o3x o4x f t W G:=by
 have D:=V.n
 have Y:=aI O U
 have h2:f*c.n+t<64*64:=by have:c.n*c.n≤64*64:=Nat.mul_le_mul D D; omega
 unfold BX
 rw [h.len]
 refine AC (by simp) (AC (by simp; omega) (AC (by simp) (AC (by simp; omega) ?_)))
 have Z:(f:Int)*(c.n:Int)=((f*c.n:Nat):Int):=by simp
 have e:A7 (A7 ((f:Int)*(c.n:Int))+(t:Int))=((f*c.n+t:Nat):Int):=by
  rw [Z,AJ (x:=((f*c.n:Nat):Int)) (by omega) (by omega),AJ (by omega) (by omega)]; simp
 rw [e]
 refine A9 (by omega) (x:=some (rb (f*c.n+t))) ?_ J
 rw [h.bs,Int.toNat_natCast,List.getElem?_map,List.getElem?_range Y]; rfl
theorem fY (h:RepR c ra rb m o o3 o4) {f t:Int} (J:¬((0≤f∧f<c.n)∧(0≤t∧t<c.n))) {G:Unit→Prop} {O:Option Nat→Prop} (D:G ()):BX o o3x o4x f t G O:=by
 unfold BX
 rw [h.len]
 exact A0 (fun _=>D) fun h1=>A0 (fun _=>D) fun h2=>A0 (fun _=>D) fun h3=>A0 (fun _=>D) fun h4=>absurd ⟨⟨by omega,by omega⟩,by omega,by omega⟩ J
theorem AbX {f t:Nat} {a:Abs} (h:a=m.bx f t):DL m f t a=m:=by rw [h]; exact vW m f t
theorem pN (hc:VL c) (h:RepR c ra rb m o o3 o4) (g:Good c m) (hl:Live c N m) {k:Nat} (hk:k<c.n) {Q:(Bool×A4×AA)→Prop}
  (hQ:∀ U W,RepR c ra rb (m.send c k).2 o U W→Q ((m.send c k).1,U,W)):DN o o3 o4 k Q:=by
 unfold DN
 rw [h.len]
 obtain ⟨x,hx,G⟩:=h.wk k hk
 refine AC (by simp) (AC (by simp; omega) (A9 (by omega) (h.get hk) (D4 hx ?_)))
 rw [G.out]
 cases ho:(m.w k).out with
 | nil=>
  refine AY rfl ?_
  have:=hQ o3 o4
  simp only [MS.send,ho] at this
  exact this h
 | cons f r=>
  refine AC (by simp; omega) (A9 (by omega) (h.get hk) ?_)
  obtain ⟨t,s,V,hs,Z,hro,hsm,hcn⟩:=g.out k hk f (by rw [ho]; exact List.mem_cons_self)
  have J:x.Out=f :: r:=by rw [G.out,ho]
  have O:=g.cnt k t hk V
  rw [ho] at O
  simp only [List.length_cons] at O
  refine D4 hx (A9 (by omega) (x:=f) (by rw [J]; rfl) (A9 (by omega) (x:=f) (by rw [J]; rfl) ?_))
  rw [Z]
  refine aJ hc h hk V ?_
  obtain ⟨pb,hb,hi⟩:=h.bx k t hk V
  unfold MO
  rw [FC,JD hb]
  have D:=hQ
  simp only [MS.send,ho,Z,Int.toNat_natCast] at D
  refine Aa5 (Aa8 hc g hl hk V) hi hsm fun b' hi'=>?_
  have h2:=h.setB hk V hi'
  by_cases e:((m.bx k t).send f).1=0
  · rw [if_pos e] at D
    refine CK (fun h1=>absurd e h1) fun _=>D4 hx ⟨by omega,by rw [J]; simp; omega,by omega,?_⟩
    have Y:((x.Out.take (x.Out.length:Int).toNat).drop (Int.toNat 1))=r:=by rw [J]; simp
    exact D _ _ (h2.setW hk (a:={ m.w k with out:=r }) ⟨G.i,G.j,G.mask,Y,G.at_,G.le,G.has,G.l,G.r⟩)
  · rw [if_neg e] at D
    refine CK (fun _=>D _ _ ?_) fun h1=>absurd h1 e
    rwa [AbX] at h2
    unfold Abs.send at e ⊢
    split
    · rfl
    · rename_i hh; rw [if_neg hh] at e; exact absurd rfl e
def RkR (c:SK):Prop:=∀ (k s:Nat) (hs:s<c.S.length),k<c.n→∀ Q:List AB→Prop,Q (c.has k (s+1)) →
 HC c.p.Ring (c.mask k).Rows (A7 (c.S[s].To - c.S[s].From)) (c.LA k s) fun x=>HC c.p.Ring (A7 (c.S[s].To - c.S[s].From)) (c.mask k).Cols (c.RB k s) fun y=>
  OI c.p.Ring x.1 y.1 (c.mask k) fun z=>HU c.p.Ring ([c.has k s,z.1]:List (List AB)) fun v=>Q v.1
theorem sE (hc:VL c) (hr:RkR c) (h:RepR c ra rb m o o3 o4) {k:Nat} (hk:k<c.n) {Q:A4→Prop} (G:(m.w k).at_<c.S.length) (g2:(m.w k).gl (m.w k).at_=true) (g3:(m.w k).gr (m.w k).at_=true)
   (hQ:∀ O,RepR c ra rb (EX m k { m.w k with at_:=(m.w k).at_+1 }) o O o4→Q O):DU o o3 (some (ra k)) Q:=by
 obtain ⟨x,hx,D⟩:=h.wk k hk
 have hS:=hc.S
 obtain ⟨hL1,y1,V,W⟩:=D.l _ G
 obtain ⟨hR1,y2,U,Y⟩:=D.r _ G
 have e1:=W g2
 have e2:=Y g3
 subst e1 e2
 unfold DU
 simp only [T3 hx,RY,WS]
 rw [h.S,D.at_,h.p,D.mask,D.has]
 refine AK G (AK G (A9 (by omega) (by simpa using V) ?_))
 have:=hr k _ G hk (fun z=>Q ((ra k,({ I:=x.I,J:=x.J,Mask:=c.mask k,Out:=x.Out,Lefts:=x.Lefts,Rights:=x.Rights,L:=x.L,R:=x.R,At:=A7 (((m.w k).at_:Int)+1),Has:=z }:AQ)) :: BM (ra k) o3)) ?_
 · have ei:∀ (K:List A3→Prop),AN x.R ((m.w k).at_:Int) K=K (c.RB k (m.w k).at_):=fun K=>propext ⟨fun ⟨_,z,Z,hk⟩=>by
    have:x.R[((m.w k).at_:Int).toNat]? = some (c.RB k (m.w k).at_):=by simpa using U
    rw [this] at Z; cases Z; exact hk,fun hk=>A9 (by omega) (by simpa using U) hk⟩
   simp only [ei]
   exact this
 · refine hQ _ (h.setW hk ⟨D.i,D.j,rfl,D.out,?_,G,rfl,D.l,D.r⟩)
   simp only; rw [AJ (by omega) (by omega)]; simp
theorem wF (hc:VL c) (hr:RkR c) {k:Nat} (hk:k<c.n) {a:Wk} {s0:A4} (h:RepR c ra rb (EX m k a) o s0 o4) (ha:a.at_≤c.S.length)
  {V:A4→Prop} (hQ:∀ s,RepR c ra rb (EX m k (YD c.S.length a)) o s o4→V s) :
  B1 (fun (s:Option Nat×A4) (next:Option Nat×A4→Prop)=>match s with | (s1,U)=>CE U s1 fun b x=>AD (decide (x.At<(o.S.length:Int))) (AN x.Lefts x.At fun u=>AD u (AN x.Rights x.At fun v=>AD v (DU o U (some b) fun r=>next ((some b),r)) (V U)) (V U)) (V U)) (some (ra k),s0):=by
 refine BT (fun j s=>∃ t U,s=(some (ra k),U)∧RepR c ra rb (EX m k { a with at_:=t }) o U o4∧c.S.length≤t+j∧t≤c.S.length∧VM a.gl a.gr c.S.length j t=(YD c.S.length a).at_) (m0:=c.S.length) ⟨a.at_,s0,rfl,h,by omega,ha,rfl⟩ ?_
 rintro j _ next ⟨t,U,rfl,G,hj,ht,D⟩ hn
 have hS:=hc.S
 obtain ⟨x,hx,W⟩:=G.wk k hk
 rw [QT] at W
 have O:¬(t<c.S.length∧a.gl t=true∧a.gr t=true)→V U:=fun Z=>hQ _ (by
  have e:VM a.gl a.gr c.S.length j t=t:=by
   cases j with
   | zero=>rfl
   | succ j=>unfold VM; rw [if_neg Z]
  rw [e] at D
  have:(YD c.S.length a) = { a with at_:=t }:=by
   unfold YD at D ⊢
   simp only at D
   rw [←D]
  rw [this]; exact G)
 show CE U (some (ra k)) _
 refine D4 hx ?_
 rw [G.S,W.at_]
 refine A0 (fun h1=>?_) fun h1=>O fun e=>absurd (show (t:Int)<(c.S.length:Int) by omega) h1
 have Y:t<c.S.length:=by simp only at h1; omega
 obtain ⟨hL1,_⟩:=W.l _ Y
 obtain ⟨hR1,_⟩:=W.r _ Y
 refine A9 (by omega) (by simpa using hL1) ?_
 show AD (a.gl t) _ _
 cases g2:a.gl t with
 | false=>exact AC rfl (O fun e=>by rw [g2] at e; simp at e)
 | true=>
  refine AY rfl (A9 (by omega) (by simpa using hR1) ?_)
  show AD (a.gr t) _ _
  cases g3:a.gr t with
  | false=>exact AC rfl (O fun e=>by rw [g3] at e; simp at e)
  | true=>
   refine AY rfl (sE hc hr G hk (by rw [QT]; exact Y) (by rw [QT]; exact g2) (by rw [QT]; exact g3) fun o3' J=>?_)
   rw [QT,jU] at J
   refine hn (j - 1) _ (by omega) ⟨t+1,o3',rfl,J,by omega,by omega,?_⟩
   rw [←D]
   obtain ⟨i,rfl⟩:∃ i,j=i+1:=⟨j - 1,by omega⟩
   show VM a.gl a.gr c.S.length i (t+1)=_
   conv=>rhs; unfold VM
   rw [if_pos ⟨Y,g2,g3⟩]
theorem pO (hc:VL c) (hr:RkR c) (h:RepR c ra rb m o o3 o4) (g:Good c m) (hl:Live c N m) {f t:Nat} (Y:f<c.n) (J:t<c.n) {k:Int} {Q:(Bool×A4×AA)→Prop}
  (W:∀ o3' o4',RepR c ra rb (m.hand c f t k).2 o o3' o4'→Q ((m.hand c f t k).1,o3',o4')):CW o o3 o4 f t k Q:=by
 unfold CW
 refine aJ hc h Y J (AC rfl ?_)
 obtain ⟨pb,hb,hi⟩:=h.bx f t Y J
 unfold MP
 rw [FC,JD hb]
 refine Aa7 (Aa8 hc g hl Y J) hi fun b' hi'=>?_
 have h2:=h.setB Y J hi'
 unfold MS.hand at W
 cases e:((m.bx f t).take k).2.1 with
 | false=>
  rw [e] at W
  simp only [Bool.false_eq_true,if_false] at W
  exact AY rfl (W _ _ h2)
 | true=>
  rw [e] at W
  simp only [if_true] at W
  refine AC rfl (A9 (by omega) (h2.get J) ?_)
  obtain ⟨x,hx,G⟩:=h2.wk t J
  obtain ⟨hlt,hfe⟩:=vV (hl.bx f t Y J) e
  obtain ⟨⟨D,s,ht',hs,hto',hro,hsm,hcn⟩,hto⟩:=g.box f t Y J _ (List.getElem_mem hlt)
  rw [←hfe] at hto hto' hro hsm hcn
  have et:D=t:=by omega
  subst et
  have hle:(U0 ((DL m f D ((m.bx f D).take k).2.2.2).w D) ((m.bx f D).take k).1).at_≤c.S.length:=by
    unfold U0; split <;> exact G.le
  obtain ⟨hL1,y1,hL2,hL3⟩:=G.l s hs
  obtain ⟨Z,y2,hR2,hR3⟩:=G.r s hs
  have O:∀ {α:Type} {l:List α} {y:α},l[s]? = some y→s<l.length:=fun h=>(List.getElem?_eq_some_iff.1 h).1
  have fin:∀ x',Aa9 c D (U0 ((DL m f D ((m.bx f D).take k).2.2.2).w D) ((m.bx f D).take k).1) x'→∀ K:Option Nat×A4→Prop,(∀ s,RepR c ra rb (EX (DL m f D ((m.bx f D).take k).2.2.2) D (U0 ((DL m f D ((m.bx f D).take k).2.2.2).w D) ((m.bx f D).take k).1)) o s _→K (some (ra D),s))→K (some (ra D),(ra D,x') :: BM (ra D) o3):=fun x' hx' K hK=>hK _ (h2.setW J hx')
  have U:∀ s,RepR c ra rb (EX (DL m f D ((m.bx f D).take k).2.2.2) D (U0 ((DL m f D ((m.bx f D).take k).2.2.2).w D) ((m.bx f D).take k).1)) o s ((rb (f*c.n+D),b') :: BM (rb (f*c.n+D)) o4)→_:=fun s hs=>wF hc hr J hs hle fun s' hs'=>W s' _ hs'
  unfold EC
  rw [hro]
  rcases hcn with ⟨hk6,V⟩ | ⟨hk7,V⟩
  · refine AY (by rw [hk6]; rfl) (D4 hx (A9 (by omega) (by simpa using hL1) ?_))
    rw [RY,WS]
    refine A9 (by omega) (by simpa using hL2) (fin _ ?_ _ U)
    unfold U0
    rw [if_pos hk6]
    refine ⟨G.i,G.j,G.mask,G.out,G.at_,G.le,G.has,fun q hq=>?_,G.r⟩
    obtain ⟨a1,y,a2,a3⟩:=G.l q hq
    simp only [hro,Int.toNat_natCast,V,List.getElem?_set]
    by_cases eq:q=s
    · subst eq; simp [O hL1,O hL2]
    · simp only [if_neg (fun h:s=q=>eq h.symm),if_neg eq]; exact ⟨a1,y,a2,a3⟩
  · refine AC (by rw [hk7]; rfl) (D4 hx (A9 (by omega) (by simpa using Z) ?_))
    rw [RY,WS]
    refine A9 (by omega) (by simpa using hR2) (fin _ ?_ _ U)
    unfold U0
    rw [if_neg (by omega)]
    refine ⟨G.i,G.j,G.mask,G.out,G.at_,G.le,G.has,G.l,fun q hq=>?_⟩
    obtain ⟨a1,y,a2,a3⟩:=G.r q hq
    simp only [hro,Int.toNat_natCast,V,List.getElem?_set]
    by_cases eq:q=s
    · subst eq; simp [O Z,O hR2]
    · simp only [if_neg (fun h:s=q=>eq h.symm),if_neg eq]; exact ⟨a1,y,a2,a3⟩
end Go.Proofs.YtbohadngdkjljaaGreat
