import Derived.Test.YtbohadngdkjljaaGreatSumO
namespace Go.Proofs.YtbohadngdkjljaaGreat
open Go Go.Fw
set_option linter.unusedVariables false
set_option linter.unusedSimpArgs false
def vY:List A1:=[⟨0,1,3⟩,⟨1,0,5⟩]
def AbR:List A1:=[⟨0,0,15⟩,⟨1,1,15⟩]
def UB:List AV:=[⟨0,1,0,0⟩,⟨1,2,1,0⟩]
def S5:Data:=⟨5,2,2,2,vY,vY,T5 2 2,2,1,1,[]⟩
theorem YQ:Canon 2 2 vY:=⟨by decide,by decide,by decide,by decide,by decide,by unfold Srt; decide,by decide⟩
theorem YR:Canon 2 2 AbR:=⟨by decide,by decide,by decide,by decide,by decide,by unfold Srt; decide,by decide⟩
theorem X7:∀ t∈vY,GM t.Val:=fun t h=>by
 unfold vY at h
 simp only [List.mem_cons,List.not_mem_nil,or_false] at h
 rcases h with rfl | rfl <;> (unfold GM; decide)
theorem Ad7:DOk0 S5:=⟨by decide,YQ,YQ,dB (n:=2) (m:=2) (by decide) (by decide),X7,X7,fun t h=>by rw [(bZ h).2]; unfold GM; omega,by decide,by decide,by decide⟩
theorem Aa0 {S:List AV} (h:SegSp 2 2 1 2 S) (J:S.length+1≤3):S=UB:=by
 have l0:BU 2 ((2:Nat):Int) 0=0:=by decide
 have U:BU 2 ((2:Nat):Int) 1=1:=by decide
 have D:BU 2 ((2:Nat):Int) (0+1)=1:=by decide
 match S,h,J with
 | [],h,_=>exact absurd h.top (by decide)
 | [x],h,_=>
  exfalso
  have t:x.To=2:=h.top
  have r:=h.row 0 (by simp)
  have lo:=(h.lo 0 (by simp)).1
  simp only [List.getElem_cons_zero] at r lo
  have lo:x.From=0:=lo
  rcases (by omega:x.Row=0∨x.Row=1) with e | e
  · rw [e,D] at r; omega
  · rw [e,U] at r; omega
 | [x,y],h,_=>
  have t:y.To=2:=h.top
  have r:=h.row 0 (by simp)
  have O:=h.row 1 (by simp)
  have q:=h.col 0 (by simp)
  have W:=h.col 1 (by simp)
  have lo:=h.lo 0 (by simp)
  have G:=h.lo 1 (by simp)
  simp only [List.getElem_cons_zero,List.getElem_cons_succ] at r O q W lo G
  have f1:x.From=0:=lo.1
  have f2:y.From=x.To:=G.1
  have V:x.Row=0:=by
    rcases (by omega:x.Row=0∨x.Row=1) with e | e
    · exact e
    · rw [e,U] at r; omega
  have e2:y.Row=1:=by
    rcases (by omega:y.Row=0∨y.Row=1) with e | e
    · rw [e,D] at O; omega
    · exact e
  rw [V,D] at r
  obtain ⟨xf,xt,xr,xc⟩:=x
  obtain ⟨yf,yt,yr,yc⟩:=y
  simp only at *
  unfold UB
  simp only [List.cons.injEq,AV.mk.injEq,and_true]
  omega
 | x :: y :: z :: r,_,J=>simp at J
theorem Ad8:ON 5 2 2 (iI S5)=(B0 2 2 AbR,0):=by decide
theorem vZ {n m:Nat} {Q:Rows→Prop} (hn:n≤13) (W:m≤13) (V:Q (B0 n m (T5 n m))):TR n m Q:=by
 unfold TR
 have J:∀ t∈T5 n m,GM t.Val:=fun t O=>by rw [(bZ O).2]; unfold GM; omega
 have G:=dB (show n≤200 by omega) (show m≤200 by omega)
 refine B3 (fun (s:List A1) i=>(s,i)) 0 n (by omega) (fun i s=>s=T5 i m) (by omega) rfl (fun i s next _ hi D Z=>?_) (fun s next D=>?_)
 · subst D
   refine A0 (fun _=>?_) (fun h=>by omega)
   refine B3 (fun (s:List A1) i=>(s,i)) 0 m (by omega) (fun j s=>s=T5 i m++XW i j) (by omega) (by simp [XW]) (fun j s Y _ hj D U=>?_) (fun s Y D=>?_)
   · subst D
     refine A0 (fun _=>AQ ?_ (U _ ?_)) (fun h=>by omega)
     · have h1:=Nat.mul_le_mul (show i≤13 by omega) W
       rw [List.length_append,bY,XW,List.length_map,List.length_range,List.length_singleton]
       omega
     · rw [rJ,List.append_assoc]
   · subst D
     refine A0 (fun h=>by omega) (fun _=>Z _ ?_)
     rw [fO]
 · subst D
   refine A0 (fun h=>by omega) (fun _=>PU (by have:=G.len; omega) J ?_)
   rw [X0 G J (by omega)]
   exact V
theorem Ad9 (adr:Nat→Nat):(UT ((S5.wS UB).ctx adr) (AbQ 2 1) (init (S5.wS UB))).ended ((S5.wS UB).ctx adr)=true:=by kernel_rfl
theorem wA {Q:Bool→Prop} (hQ:Q true):TS Q:=by
 unfold TS
 refine PU (by decide) X7 ?_
 rw [show ([({ Row:=0,Col:=1,Val:=3 }:A1),({ Row:=1,Col:=0,Val:=5 }:A1)]:List A1)=vY from rfl,X0 YQ X7 (by decide)]
 refine vZ (n:=2) (m:=2) (by decide) (by decide) ?_
 have h0:=Ad7
 show EP [] [] S5.p _ _
 refine mM h0 fun S W bk hS h hc J=>?_
 have U:S=UB:=Aa0 hS (by have:=h.seg.len; exact this)
 subst U
 generalize hcc:((S5.wS UB).ctx fun i=>W.getD i 0)=c at hc J
 have hrk:Rk c:=by rw [←hcc]; exact AcC h _
 have hg:Good c (init (S5.wS UB)):=by rw [←hcc]; exact cL h _
 have D:c.n=2:=by rw [←hcc]; rfl
 have hcs:c.S=UB:=by rw [←hcc]; rfl
 refine zP hc hrk J hg fun b0 b1 b2 hb _=>?_
 have V:(init (S5.wS UB)).act c { Kind:=1,A:=0,B:=0,K:=0 }=(init (S5.wS UB)).send c 0:=by
   unfold MS.act
   rw [if_neg (by decide),if_pos rfl,if_pos ⟨by decide,by rw [D]; decide⟩]
   rfl
 have Y:=hg.acted hc { Kind:=1,A:=0,B:=0,K:=0 }
 rw [V] at hb Y ⊢
 have hs:=uC (c:=c) (m:=init (S5.wS UB)) (k:=0) (t:=0) (f:=mK (S5.wS UB) 0 0 0) (r:=[mL (S5.wS UB) 0 0 0,mL (S5.wS UB) 0 0 1,mK (S5.wS UB) 0 1 0]) (by decide) (by decide) (by decide)
 rw [hs] at hb Y ⊢
 refine AbJ hc hb (f:=0) (t:=0) (by rw [D]; decide) (by rw [D]; decide) fun e0 e2 G _=>?_
 show GG S5.p _
 refine pL h0 ?_
 show G8 S5.p [] ((AbQ 2 1:Nat):Int) _
 refine Ad6 h0 (by simp) (fun x hx=>absurd hx List.not_mem_nil) (by decide) (fun S W hS h _=>?_) ?_
 · have U:S=UB:=Aa0 hS (by have:=h.seg.len; exact this)
   subst U
   exact Ad9 _
 have hd:ON S5.r S5.n S5.q (iI S5)=(B0 2 2 AbR,0):=Ad8
 rw [hd]
 refine fJ YR.sml (D4 YR) YR ?_
 have Z:oG AbR 0 0=(15,true):=by decide
 rw [Z]
 unfold EP EV
 refine JX (AU rfl (AU rfl ?_))
 unfold GX
 refine AU rfl (AU rfl (AU rfl ?_))
 unfold GY
 rw [G.S,hcs]
 refine AU rfl ?_
 refine zZ G (by unfold OT; rw [D]; decide) ?_
 have e1:OT c (ER (DH (init (S5.wS UB)) 0 0 { (init (S5.wS UB)).bx 0 0 with row:=((init (S5.wS UB)).bx 0 0).row++[((init (S5.wS UB)).bx 0 0).fs.length],fs:=((init (S5.wS UB)).bx 0 0).fs++[{ mK (S5.wS UB) 0 0 0 with Seq:=((init (S5.wS UB)).bx 0 0).fs.length }] }) 0 { (init (S5.wS UB)).w 0 with out:=[mL (S5.wS UB) 0 0 0,mL (S5.wS UB) 0 0 1,mK (S5.wS UB) 0 1 0] })=1:=by unfold OT; rw [D]; decide
 dsimp only at e1 G ⊢
 rw [e1]
 refine AU rfl ?_
 refine aN hc G ?_
 have e2:MS.ended c (ER (DH (init (S5.wS UB)) 0 0 { (init (S5.wS UB)).bx 0 0 with row:=((init (S5.wS UB)).bx 0 0).row++[((init (S5.wS UB)).bx 0 0).fs.length],fs:=((init (S5.wS UB)).bx 0 0).fs++[{ mK (S5.wS UB) 0 0 0 with Seq:=((init (S5.wS UB)).bx 0 0).fs.length }] }) 0 { (init (S5.wS UB)).w 0 with out:=[mL (S5.wS UB) 0 0 0,mL (S5.wS UB) 0 0 1,mK (S5.wS UB) 0 1 0] })=false:=by unfold MS.ended; rw [D,hcs]; decide
 dsimp only at e2
 rw [e2]
 refine AU rfl (AU rfl (AU rfl (AU rfl (AU rfl (AU rfl (AU rfl ?_))))))
 show GG S5.p _
 refine pL h0 (AU rfl ?_)
 refine mG G ?_
 rw [if_pos ⟨by decide,by rw [D]; decide⟩]
 refine AU (by decide) ?_
 refine zT G (k:=0) (by rw [D]; decide) ?_
 refine AU (by decide) ?_
 have O:=gF h0 (Q:=fun r=>Q (r==0)) hQ
 unfold EV at O
 exact O
variable {d:Data}
theorem UC {x n:Int} (hn:1≤n) {Q:Int→Prop} (D:∀ y,0≤y→y<n→Q y):HW x n Q:=by
 unfold HW
 refine A0 (fun h=>by omega) fun _=>A0 (fun _=>D 0 (by omega) (by omega)) fun h=>⟨by omega,?_⟩
 rw [Int.tmod_eq_emod_of_nonneg (by omega)]
 exact D _ (Int.emod_nonneg _ (by omega)) (Int.emod_lt_of_pos _ (by omega))
structure AcE (n:Int) (l:List EI):Prop where
 len:l.length≤120
 mv:∀ x∈l,dX x=true
 ab:∀ x∈l,(0≤x.A∧x.A<n)∧(0≤x.B∧x.B<n)
theorem wC {a:GB} {n:Int} (O:1≤n∧n≤64) {Q:List EI→Prop} (G:∀ l,AcE n l→Q l):I3 a n Q:=by
 unfold I3
 refine BV (fun j (x:List EI×Int)=>∃ i:Nat,x.2=(i:Int)∧x.1.length=i∧i+j=120∧AcE n x.1) (m0:=120) ⟨0,rfl,rfl,rfl,by decide,fun x h=>absurd h (List.not_mem_nil),fun x h=>absurd h (List.not_mem_nil)⟩ ?_
 rintro j ⟨l,ix⟩ next ⟨i,hi,J,hj,D⟩ hnext
 simp only at hi J D
 subst hi
 show AD (decide ((i:Int)<(a.L.length:Int))) _ _
 refine A0 (fun h1=>A0 (fun h2=>?_) (fun _=>G l D)) (fun _=>G l D)
 refine AJ (by omega) (UC (by omega) fun k k0 k1=>UC O.1 fun A a0 a1=>UC O.1 fun B U Z=>UC (by omega) fun K Y q1=>AQ (by simp; omega) ?_)
 have V:A7 ((i:Int)+1)=((i+1:Nat):Int):=by rw [AH (by omega) (by omega)]; simp
 have W:A7 (k+1)=k+1:=AH (by omega) (by omega)
 rw [V,W]
 refine hnext (j - 1) _ (by omega) ⟨i+1,rfl,by simp [J],by omega,⟨by simp; omega,fun x h=>?_,fun x h=>?_⟩⟩
 · rcases List.mem_append.1 h with h | h
   · exact D.mv x h
   · rw [List.mem_singleton] at h; subst h
     unfold dX
     exact decide_eq_true ⟨a0,by dsimp only; omega,U,by dsimp only; omega,Y,by dsimp only; omega,by dsimp only; omega,by dsimp only; omega⟩
 · rcases List.mem_append.1 h with h | h
   · exact D.ab x h
   · rw [List.mem_singleton] at h; subst h
     exact ⟨⟨a0,a1⟩,U,Z⟩
variable {s:Abs} {o:B4}
structure pN (s:Abs):Prop where
 lt:∀ n∈s.row,n<s.fs.length
 seq:∀ (i:Nat) (f:AM),s.fs[i]? = some f→f.Seq=i∧U6 f
 rlen:s.row.length≤s.room
 r64:s.room≤64
 flen:s.fs.length≤100000
 tk:s.taken≤s.fs.length
def Abs.L (s:Abs):List AM:=s.row.map fun n=>s.fs.getD n zf
structure YS (o:B4) (s:Abs):Prop where
 many:o.Many=s.room
 out:o.Out=s.fs.length
 inn:o.In=s.taken
 l:o.L=s.L
theorem Y1 (s:Abs):s.L.length=s.row.length:=by simp [Abs.L]
theorem pO (h:pN s) {i:Nat} (hi:i<s.row.length):∃ f,s.L[i]? = some f∧f=s.fs.getD s.row[i] zf∧f.Seq=s.row[i]∧U6 f:=by
 have D:=h.lt _ (List.getElem_mem hi)
 have G:=h.seq _ _ (List.getElem?_eq_getElem D)
 have e:s.fs.getD s.row[i] zf=s.fs[s.row[i]]:=by simp [D]
 exact ⟨_,by simp [Abs.L,hi],rfl,by rw [e]; exact G.1,by rw [e]; exact G.2⟩
theorem uG {f:AM} {Q:AM→Prop} (h:U6 f) (J:Q f):T2 f Q:=by
 obtain ⟨G,D,U⟩:=h
 unfold T2
 obtain ⟨K,F,T,S,R,⟨VN,VI⟩,Su,Tr,N,O⟩:=f
 simp only at G D U
 subst G D
 exact AQ (by simp) (AQ (by simp) (AQ (by simp only [List.length_nil]; omega) J))
theorem mO {k:Int} {Q:Int→Prop} (r:YS o s) (h:Q (s.at k)):F4 o k Q:=by
 unfold F4
 rw [r.l,Y1]
 unfold Abs.at at h
 refine A0 (fun D=>?_) (fun D=>A0 (fun G=>?_) (fun G=>?_))
 · rwa [if_pos D] at h
 · rwa [if_neg D,if_pos G] at h
 · rwa [if_neg D,if_neg G] at h
theorem X8 (s:Abs):s.fullB=true↔(s.room:Int)≤(s.row.length:Int):=by unfold Abs.fullB; simp
theorem Aa1 {f:AM} {Q:(Int×B4)→Prop} (h:pN s) (r:YS o s) (Y:U6 f) (J:∀ o',YS o' (s.send f).2→Q ((s.send f).1,o')):I6 o f Q:=by
 unfold I6
 have V:=h.rlen
 have Z:=h.r64
 have U:=h.flen
 rw [r.many,r.l,Y1]
 refine A0 (fun O=>?_) (fun O=>?_)
 · have G:s.fullB=true:=(X8 s).2 O
   have:=J o; unfold Abs.send at this; rw [if_pos G] at this; exact this r
 · have G:s.fullB=false:=by
     cases e:s.fullB with
     | false=>rfl
     | true=>exact absurd ((X8 s).1 e) O
   rw [U9 _ G] at J
   have D:=r.out
   refine uG Y (AQ (by rw [Y1]; simp; omega) (J _ ⟨rfl,?_,r.inn,?_⟩))
   · simp only [List.length_append,List.length_singleton]; rw [D,AH (by omega) (by omega)]; simp
   · simp only [Abs.L,List.map_append,List.map_singleton]
     rw [D]
     congr 1
     · refine List.map_congr_left fun n W=>?_
       have:=h.lt n W
       simp [List.getElem?_append_left this]
     · simp
theorem rW {k:Int} {Q:(Int×B4)→Prop} (h:pN s) (r:YS o s) (D:∀ o',YS o' (s.double k).2→Q ((s.double k).1,o')):GI o k Q:=by
 unfold GI
 have W:=h.rlen
 have Y:=h.r64
 refine mO r (CB (fun G=>?_) (fun G=>?_))
 · have:=D o; unfold Abs.double at this; rw [if_pos G] at this; exact this r
 · unfold Abs.double at D
   rw [if_neg (by rw [G]; simp)] at D
   rw [r.many,r.l,Y1]
   refine A0 (fun O=>?_) (fun O=>?_)
   · have:=D o; rw [if_pos ((X8 s).2 O)] at this; exact this r
   · rw [if_neg (fun e=>O ((X8 s).1 e))] at D
     obtain ⟨i,rfl,hi⟩:=LJ G
     rw [MW hi] at D
     obtain ⟨f,U,V,Z,J⟩:=pO h hi
     refine AA (by omega) (x:=f) (by simpa using U) (uG J (AQ (by rw [Y1]; simp; omega) (D _ ⟨rfl,r.out,r.inn,?_⟩)))
     simp only
     rw [V]
     simp [Abs.L]
theorem gI {i:Nat} {Q:(AM×B4)→Prop} (h:pN s) (r:YS o s) (hi:i<s.row.length) (V:∀ f o',f=s.fs.getD s.row[i] zf→f.Seq=s.row[i]→YS o' { s with row:=s.row.eraseIdx i }→Q (f,o')):EX o (i:Int) Q:=by
 unfold EX
 have Y:=h.rlen
 have Z:=h.r64
 obtain ⟨f,G,J,O,W⟩:=pO h hi
 have D:=Y1 s
 have U:A7 ((i:Int)+1)=((i+1:Nat):Int):=by rw [AH (by omega) (by omega)]; simp
 rw [U,r.l]
 refine AA (by omega) (x:=f) (by simpa using G) ⟨by omega,by omega,by omega,AQ ?_ ⟨by omega,by omega,by omega,AQ ?_ (V _ _ J O ⟨r.many,r.out,r.inn,?_⟩)⟩⟩
 · simp; omega
 · simp; omega
 · show _=(s.row.eraseIdx i).map fun n=>s.fs.getD n zf
   rw [←O1,List.eraseIdx_eq_take_drop_succ]
   show _=s.L.take i++s.L.drop (i+1)
   simp [←D]
theorem Aa2 {k:Int} {Q:(Int×B4)→Prop} (h:pN s) (r:YS o s) (D:∀ o',YS o' (s.move k).2→Q ((s.move k).1,o')):I9 o k Q:=by
 unfold I9
 have U:=h.rlen
 have V:=h.r64
 refine mO r (CB (fun J=>?_) (fun J=>?_))
 · have:=D o; unfold Abs.move at this; rw [if_pos J] at this; exact this r
 · unfold Abs.move at D
   rw [if_neg (by rw [J]; simp)] at D
   obtain ⟨i,rfl,hi⟩:=LJ J
   rw [MW hi] at D
   simp only [Int.toNat_natCast] at D
   refine gI h r hi fun f o' O _ G=>AQ ?_ (D _ ⟨G.many,G.out,G.inn,?_⟩)
   · rw [G.l,Y1]; simp only [List.length_eraseIdx]; split <;> (simp; omega)
   · simp only
     rw [G.l,O]
     simp [Abs.L]
theorem Aa3 {k:Int} {Q:(AM×Bool×Int×B4)→Prop} (h:pN s) (r:YS o s) (D:∀ o',YS o' (s.take k).2.2.2→Q ((s.take k).1,(s.take k).2.1,(s.take k).2.2.1,o')):I7 o k Q:=by
 unfold I7
 refine mO r (CB (fun O=>?_) (fun O=>?_))
 · have:=D o; unfold Abs.take at this; rw [if_pos O] at this; exact this r
 · unfold Abs.take at D
   rw [if_neg (by rw [O]; simp)] at D
   obtain ⟨i,rfl,hi⟩:=LJ O
   rw [MW hi] at D
   have hlt:=h.lt _ (List.getElem_mem hi)
   have hfl:=h.flen
   have U:=r.inn
   obtain ⟨f,Y,hf2,Z,hf4⟩:=pO h hi
   rw [r.l,U]
   refine AA (by omega) (x:=f) (by simpa using Y) ?_
   rw [Z]
   refine A0 (fun h1=>?_) (fun h1=>gI h r hi fun g o' W V J=>?_)
   · have:=D o; rw [if_pos (by omega)] at this; exact this r
   · rw [if_neg (by omega)] at D
     simp only [Int.toNat_natCast] at D
     have G:=J.inn
     simp only at G
     rw [V,G]
     refine A0 (fun h2=>?_) (fun h2=>?_)
     · have:=D o'
       rw [if_pos (by omega)] at this
       exact this J
     · rw [if_neg (by omega)] at D
       rw [W]
       refine D _ ⟨J.many,J.out,?_,J.l⟩
       have:=h.tk
       simp only; rw [AH (by omega) (by omega)]; simp
theorem rX {Q:Int→Prop} (h:pN s) (r:YS o s) (Y:Q s.oldest):GJ o Q:=by
 unfold GJ
 have hrl:=h.rlen
 have h64:=h.r64
 have hll:=Y1 s
 rw [r.l]
 refine DA (fun t:Int×Int=>∃ i:Nat,t.2=i∧i≤s.row.length∧(i=0∧t.1 = -1∨∃ (j:Nat) (W:j<s.row.length),t.1=j∧j<i∧(∀ (m:Nat) (O:m<s.row.length),m<i→s.row[j]≤s.row[m])∧∀ (m:Nat) (O:m<s.row.length),m<j→s.row[m]≠s.row[j])) (fun t=>s.row.length - t.2.toNat) ⟨0,rfl,by omega,.inl ⟨rfl,rfl⟩⟩ ?_
 rintro ⟨t1,t2⟩ next ⟨i,hi,hil,Z⟩ hnext
 simp only at hi Z
 subst hi
 have ew:i<s.row.length→A7 ((i:Int)+1)=((i+1:Nat):Int):=fun hlt=>by rw [AH (by omega) (by omega)]; simp
 rw [Y1]
 refine A0 (fun hlt=>?_) (fun hge=>?_)
 · have J:i<s.row.length:=by omega
   rw [ew J]
   refine A0 (fun hneg=>?_) (fun hpos=>?_)
   · rcases Z with ⟨h0,_⟩ | ⟨j,W,V,_⟩
     · subst h0
       refine hnext _ ⟨1,rfl,by omega,.inr ⟨0,J,rfl,by omega,fun m O U=>?_,fun m O U=>by omega⟩⟩ (by simp only; omega)
       have:m=0:=by omega
       subst this; exact Nat.le_refl _
     · omega
   · rcases Z with ⟨h0,h1⟩ | ⟨j,W,V,hji,G,D⟩
     · omega
     · subst V
       obtain ⟨f,hf1,_,hf3,_⟩:=pO h J
       obtain ⟨g,hg1,_,hg3,_⟩:=pO h W
       refine AA (by omega) (x:=f) (by simpa using hf1) (AA (by omega) (x:=g) (by simpa using hg1) ?_)
       rw [hf3,hg3]
       refine A0 (fun hless=>hnext _ ⟨i+1,rfl,by omega,.inr ⟨i,J,rfl,by omega,fun m O U=>?_,fun m O U e=>?_⟩⟩ (by simp only; omega)) (fun hnl=>hnext _ ⟨i+1,rfl,by omega,.inr ⟨j,W,rfl,by omega,fun m O U=>?_,D⟩⟩ (by simp only; omega))
       · by_cases e:m=i
         · subst e; exact Nat.le_refl _
         · have:=G m O (by omega); omega
       · have:=G m O (by omega); omega
       · by_cases e:m=i
         · subst e; omega
         · exact G m O (by omega)
 · have:i=s.row.length:=by omega
   subst this
   unfold Abs.oldest at Y
   rcases Z with ⟨h0,h1⟩ | ⟨j,W,V,hji,G,D⟩
   · rw [if_pos h0] at Y; rw [h1]; exact Y
   · rw [if_neg (by omega),jX W (fun n hn=>?_) (fun m O hml=>D m hml O)] at Y
     · rw [V]; exact Y
     · obtain ⟨m,O,rfl⟩:=List.getElem_of_mem hn
       exact G m O O
theorem Aa4 {c:T8} {m:MS} {N:Nat} (U:X3 c) (g:Good c m) (h:Live c N m) {f t:Nat} (G:f<c.n) (D:t<c.n):pN (m.bx f t):=by
 have hr:=g.room f t G D
 have hl:=g.cnt f t G D
 have O:=U.r64
 exact ⟨(h.bx f t G D).lt,fun i q J=>⟨g.seq f t G D i q J,vT (g.box f t G D q (List.mem_of_getElem? J)).1⟩,by omega,by omega,by omega,(h.bx f t G D).tk⟩
structure Aa5 (c:T8) (k:Nat) (a:Wk) (x:AO):Prop where
 i:x.I=c.wi k
 j:x.J=c.wj k
 mask:x.Mask=c.mask k
 out:x.Out=a.out
 at_:x.At=(a.at_:Int)
 le:a.at_≤c.S.length
 has:x.Has=c.has k a.at_
 l:∀ s,s<c.S.length→x.Lefts[s]? = some (a.gl s)∧∃ y,x.L[s]? = some y∧(a.gl s=true→y=c.LA k s)
 r:∀ s,s<c.S.length→x.Rights[s]? = some (a.gr s)∧∃ y,x.R[s]? = some y∧(a.gr s=true→y=c.RB k s)
structure RepR (c:T8) (ra rb:Nat→Nat) (m:MS) (o:AR) (o3:A4) (o4:A9):Prop where
 p:o.P=c.p
 S:o.S=c.S
 ws:o.W=(List.range c.n).map fun k=>some (ra k)
 bs:o.B=(List.range (c.n*c.n)).map fun k=>some (rb k)
 wk:∀ k<c.n,∃ x,BK (ra k) o3=some x∧Aa5 c k (m.w k) x
 bx:∀ f t,f<c.n→t<c.n→∃ pb,BK (rb (f*c.n+t)) o4=some pb∧YS pb (m.bx f t)
 ia:∀ i j,i<c.n→j<c.n→ra i=ra j→i=j
 ib:∀ i j,i<c.n*c.n→j<c.n*c.n→rb i=rb j→i=j
variable {c:T8} {m:MS} {N:Nat} {ra rb:Nat→Nat} {o:AR} {o3 o3x:A4} {o4 o4x:A9}
theorem RepR.len (h:RepR c ra rb m o o3 o4):o.W.length=c.n:=by rw [h.ws]; simp
theorem RepR.get (h:RepR c ra rb m o o3 o4) {k:Nat} (hk:k<c.n):o.W[((k:Int)).toNat]? = some (some (ra k)):=by
 rw [h.ws]; simp [hk]
theorem eO {n f t:Nat} (h:f<n) (ht:t<n):f*n+t<n*n:=by
 have:(f+1)*n≤n*n:=Nat.mul_le_mul_right _ h
 rw [Nat.succ_mul] at this; omega
theorem Aa6 {n f t G J:Nat} (U:t<n) (h:J<n) (e:f*n+t=G*n+J):f=G∧t=J:=by
 have D:=TC (C:=n) (i:=f) U
 have O:=TC (C:=n) (i:=G) h
 rw [e] at D
 exact ⟨D.1.symm.trans O.1,D.2.symm.trans O.2⟩
theorem RepR.setB (h:RepR c ra rb m o o3 o4) {f t:Nat} (hf:f<c.n) (U:t<c.n) {O:B4} {a:Abs} (hi:YS O a):RepR c ra rb (DH m f t a) o o3 ((rb (f*c.n+t),O) :: BO (rb (f*c.n+t)) o4):=by
 refine ⟨h.p,h.S,h.ws,h.bs,h.wk,fun V W G D=>?_,h.ia,h.ib⟩
 by_cases e:V=f∧W=t
 · obtain ⟨rfl,rfl⟩:=e
   exact ⟨O,X2,by simpa [DH] using hi⟩
 · obtain ⟨J,Z,h2⟩:=h.bx V W G D
   refine ⟨J,?_,by simpa [DH,if_neg e] using h2⟩
   rw [U7 fun Y=>e (Aa6 D U (h.ib _ _ (eO G D) (eO hf U) Y))]; exact Z
theorem RepR.setW (h:RepR c ra rb m o o3 o4) {k:Nat} (hk:k<c.n) {a:Wk} {x:AO} (G:Aa5 c k a x):RepR c ra rb (ER m k a) o ((ra k,x) :: BO (ra k) o3) o4:=by
 refine ⟨h.p,h.S,h.ws,h.bs,fun i hi=>?_,h.bx,h.ia,h.ib⟩
 by_cases e:i=k
 · subst e; exact ⟨x,X2,by simpa [ER] using G⟩
 · obtain ⟨y,O,J⟩:=h.wk i hi
   exact ⟨y,by rw [U7 fun D=>e (h.ia _ _ hi hk D)]; exact O,by simpa [ER,e] using J⟩
theorem aS (O:X3 c) (h:RepR c ra rb m o o3 o4) {f t:Nat} (U:f<c.n) (J:t<c.n) {Y:Unit→Prop} {D:Option Nat→Prop} (W:D (some (rb (f*c.n+t)))):BX o o3x o4x f t Y D:=by
 have G:=O.n
 have Z:=eO U J
 have h2:f*c.n+t<64*64:=by have:c.n*c.n≤64*64:=Nat.mul_le_mul G G; omega
 unfold BX
 rw [h.len]
 refine AC (by simp) (AC (by simp; omega) (AC (by simp) (AC (by simp; omega) ?_)))
 have V:(f:Int)*(c.n:Int)=((f*c.n:Nat):Int):=by simp
 have e:A7 (A7 ((f:Int)*(c.n:Int))+(t:Int))=((f*c.n+t:Nat):Int):=by
  rw [V,AH (x:=((f*c.n:Nat):Int)) (by omega) (by omega),AH (by omega) (by omega)]; simp
 rw [e]
 refine AA (by omega) (x:=some (rb (f*c.n+t))) ?_ W
 rw [h.bs,Int.toNat_natCast,List.getElem?_map,List.getElem?_range Z]; rfl
theorem gJ (h:RepR c ra rb m o o3 o4) {f t:Int} (O:¬((0≤f∧f<c.n)∧(0≤t∧t<c.n))) {G:Unit→Prop} {J:Option Nat→Prop} (D:G ()):BX o o3x o4x f t G J:=by
 unfold BX
 rw [h.len]
 exact A0 (fun _=>D) fun h1=>A0 (fun _=>D) fun h2=>A0 (fun _=>D) fun h3=>A0 (fun _=>D) fun h4=>absurd ⟨⟨by omega,by omega⟩,by omega,by omega⟩ O
theorem AbS {f t:Nat} {a:Abs} (h:a=m.bx f t):DH m f t a=m:=by rw [h]; exact vW m f t
theorem pP (hc:X3 c) (h:RepR c ra rb m o o3 o4) (g:Good c m) (hl:Live c N m) {k:Nat} (hk:k<c.n) {Q:(Bool×A4×A9)→Prop}
  (hQ:∀ Z U,RepR c ra rb (m.send c k).2 o Z U→Q ((m.send c k).1,Z,U)):DI o o3 o4 k Q:=by
 unfold DI
 rw [h.len]
 obtain ⟨x,hx,G⟩:=h.wk k hk
 refine AC (by simp) (AC (by simp; omega) (AA (by omega) (h.get hk) (DP hx ?_)))
 rw [G.out]
 cases ho:(m.w k).out with
 | nil=>
  refine AU rfl ?_
  have:=hQ o3 o4
  simp only [MS.send,ho] at this
  exact this h
 | cons f r=>
  refine AC (by simp; omega) (AA (by omega) (h.get hk) ?_)
  obtain ⟨t,s,V,hs,W,hro,hsm,hcn⟩:=g.out k hk f (by rw [ho]; exact List.mem_cons_self)
  have J:x.Out=f :: r:=by rw [G.out,ho]
  have O:=g.cnt k t hk V
  rw [ho] at O
  simp only [List.length_cons] at O
  refine DP hx (AA (by omega) (x:=f) (by rw [J]; rfl) (AA (by omega) (x:=f) (by rw [J]; rfl) ?_))
  rw [W]
  refine aS hc h hk V ?_
  obtain ⟨pb,hb,hi⟩:=h.bx k t hk V
  unfold MI
  rw [F9,JD hb]
  have D:=hQ
  simp only [MS.send,ho,W,Int.toNat_natCast] at D
  refine Aa1 (Aa4 hc g hl hk V) hi hsm fun b' hi'=>?_
  have h2:=h.setB hk V hi'
  by_cases e:((m.bx k t).send f).1=0
  · rw [if_pos e] at D
    refine CB (fun h1=>absurd e h1) fun _=>DP hx ⟨by omega,by rw [J]; simp; omega,by omega,?_⟩
    have Y:((x.Out.take (x.Out.length:Int).toNat).drop (Int.toNat 1))=r:=by rw [J]; simp
    exact D _ _ (h2.setW hk (a:={ m.w k with out:=r }) ⟨G.i,G.j,G.mask,Y,G.at_,G.le,G.has,G.l,G.r⟩)
  · rw [if_neg e] at D
    refine CB (fun _=>D _ _ ?_) fun h1=>absurd h1 e
    rwa [AbS] at h2
    unfold Abs.send at e ⊢
    split
    · rfl
    · rename_i hh; rw [if_neg hh] at e; exact absurd rfl e
def RkR (c:T8):Prop:=∀ (k s:Nat) (hs:s<c.S.length),k<c.n→∀ Q:List AB→Prop,Q (c.has k (s+1)) →
 HB c.p.Ring (c.mask k).Rows (A7 (c.S[s].To - c.S[s].From)) (c.LA k s) fun x=>HB c.p.Ring (A7 (c.S[s].To - c.S[s].From)) (c.mask k).Cols (c.RB k s) fun y=>
  OG c.p.Ring x.1 y.1 (c.mask k) fun z=>HS c.p.Ring ([c.has k s,z.1]:List (List AB)) fun v=>Q v.1
theorem rY (hc:X3 c) (hr:RkR c) (h:RepR c ra rb m o o3 o4) {k:Nat} (hk:k<c.n) {Q:A4→Prop} (G:(m.w k).at_<c.S.length) (g2:(m.w k).gl (m.w k).at_=true) (g3:(m.w k).gr (m.w k).at_=true)
   (hQ:∀ U,RepR c ra rb (ER m k { m.w k with at_:=(m.w k).at_+1 }) o U o4→Q U):DT o o3 (some (ra k)) Q:=by
 obtain ⟨x,hx,D⟩:=h.wk k hk
 have hS:=hc.S
 obtain ⟨hL1,y1,W,V⟩:=D.l _ G
 obtain ⟨hR1,y2,O,Y⟩:=D.r _ G
 have e1:=V g2
 have e2:=Y g3
 subst e1 e2
 unfold DT
 simp only [T9 hx,S4,X4]
 rw [h.S,D.at_,h.p,D.mask,D.has]
 refine AJ G (AJ G (AA (by omega) (by simpa using W) ?_))
 have:=hr k _ G hk (fun z=>Q ((ra k,({ I:=x.I,J:=x.J,Mask:=c.mask k,Out:=x.Out,Lefts:=x.Lefts,Rights:=x.Rights,L:=x.L,R:=x.R,At:=A7 (((m.w k).at_:Int)+1),Has:=z }:AO)) :: BO (ra k) o3)) ?_
 · have ei:∀ (K:List A1→Prop),AN x.R ((m.w k).at_:Int) K=K (c.RB k (m.w k).at_):=fun K=>propext ⟨fun ⟨_,z,Z,hk⟩=>by
    have:x.R[((m.w k).at_:Int).toNat]? = some (c.RB k (m.w k).at_):=by simpa using O
    rw [this] at Z; cases Z; exact hk,fun hk=>AA (by omega) (by simpa using O) hk⟩
   simp only [ei]
   exact this
 · refine hQ _ (h.setW hk ⟨D.i,D.j,rfl,D.out,?_,G,rfl,D.l,D.r⟩)
   simp only; rw [AH (by omega) (by omega)]; simp
theorem wD (hc:X3 c) (hr:RkR c) {k:Nat} (hk:k<c.n) {a:Wk} {s0:A4} (h:RepR c ra rb (ER m k a) o s0 o4) (ha:a.at_≤c.S.length)
  {V:A4→Prop} (hQ:∀ s,RepR c ra rb (ER m k (YO c.S.length a)) o s o4→V s) :
  B2 (fun (s:Option Nat×A4) (next:Option Nat×A4→Prop)=>match s with | (s1,U)=>CJ U s1 fun b x=>AD (decide (x.At<(o.S.length:Int))) (AN x.Lefts x.At fun u=>AD u (AN x.Rights x.At fun v=>AD v (DT o U (some b) fun r=>next ((some b),r)) (V U)) (V U)) (V U)) (some (ra k),s0):=by
 refine BV (fun j s=>∃ t U,s=(some (ra k),U)∧RepR c ra rb (ER m k { a with at_:=t }) o U o4∧c.S.length≤t+j∧t≤c.S.length∧VY a.gl a.gr c.S.length j t=(YO c.S.length a).at_) (m0:=c.S.length) ⟨a.at_,s0,rfl,h,by omega,ha,rfl⟩ ?_
 rintro j _ next ⟨t,U,rfl,G,hj,ht,D⟩ hn
 have hS:=hc.S
 obtain ⟨x,hx,Y⟩:=G.wk k hk
 rw [QT] at Y
 have O:¬(t<c.S.length∧a.gl t=true∧a.gr t=true)→V U:=fun hno=>hQ _ (by
  have e:VY a.gl a.gr c.S.length j t=t:=by
   cases j with
   | zero=>rfl
   | succ j=>unfold VY; rw [if_neg hno]
  rw [e] at D
  have:(YO c.S.length a) = { a with at_:=t }:=by
   unfold YO at D ⊢
   simp only at D
   rw [←D]
  rw [this]; exact G)
 show CJ U (some (ra k)) _
 refine DP hx ?_
 rw [G.S,Y.at_]
 refine A0 (fun Z=>?_) fun Z=>O fun e=>absurd (show (t:Int)<(c.S.length:Int) by omega) Z
 have W:t<c.S.length:=by simp only at Z; omega
 obtain ⟨hL1,_⟩:=Y.l _ W
 obtain ⟨hR1,_⟩:=Y.r _ W
 refine AA (by omega) (by simpa using hL1) ?_
 show AD (a.gl t) _ _
 cases g2:a.gl t with
 | false=>exact AC rfl (O fun e=>by rw [g2] at e; simp at e)
 | true=>
  refine AU rfl (AA (by omega) (by simpa using hR1) ?_)
  show AD (a.gr t) _ _
  cases g3:a.gr t with
  | false=>exact AC rfl (O fun e=>by rw [g3] at e; simp at e)
  | true=>
   refine AU rfl (rY hc hr G hk (by rw [QT]; exact W) (by rw [QT]; exact g2) (by rw [QT]; exact g3) fun o3' J=>?_)
   rw [QT,jY] at J
   refine hn (j - 1) _ (by omega) ⟨t+1,o3',rfl,J,by omega,by omega,?_⟩
   rw [←D]
   obtain ⟨i,rfl⟩:∃ i,j=i+1:=⟨j - 1,by omega⟩
   show VY a.gl a.gr c.S.length i (t+1)=_
   conv=>rhs; unfold VY
   rw [if_pos ⟨W,g2,g3⟩]
theorem pQ (hc:X3 c) (hr:RkR c) (h:RepR c ra rb m o o3 o4) (g:Good c m) (hl:Live c N m) {f t:Nat} (Y:f<c.n) (J:t<c.n) {k:Int} {Q:(Bool×A4×A9)→Prop}
  (V:∀ o3' o4',RepR c ra rb (m.hand c f t k).2 o o3' o4'→Q ((m.hand c f t k).1,o3',o4')):CV o o3 o4 f t k Q:=by
 unfold CV
 refine aS hc h Y J (AC rfl ?_)
 obtain ⟨pb,hb,hi⟩:=h.bx f t Y J
 unfold MJ
 rw [F9,JD hb]
 refine Aa3 (Aa4 hc g hl Y J) hi fun b' hi'=>?_
 have h2:=h.setB Y J hi'
 unfold MS.hand at V
 cases e:((m.bx f t).take k).2.1 with
 | false=>
  rw [e] at V
  simp only [Bool.false_eq_true,if_false] at V
  exact AU rfl (V _ _ h2)
 | true=>
  rw [e] at V
  simp only [if_true] at V
  refine AC rfl (AA (by omega) (h2.get J) ?_)
  obtain ⟨x,hx,G⟩:=h2.wk t J
  obtain ⟨hlt,hfe⟩:=vV (hl.bx f t Y J) e
  obtain ⟨⟨D,s,ht',hs,hto',hro,hsm,hcn⟩,hto⟩:=g.box f t Y J _ (List.getElem_mem hlt)
  rw [←hfe] at hto hto' hro hsm hcn
  have et:D=t:=by omega
  subst et
  have hle:(U8 ((DH m f D ((m.bx f D).take k).2.2.2).w D) ((m.bx f D).take k).1).at_≤c.S.length:=by
    unfold U8; split <;> exact G.le
  obtain ⟨hL1,y1,hL2,hL3⟩:=G.l s hs
  obtain ⟨hR1,y2,hR2,hR3⟩:=G.r s hs
  have O:∀ {α:Type} {l:List α} {y:α},l[s]? = some y→s<l.length:=fun h=>(List.getElem?_eq_some_iff.1 h).1
  have Z:∀ x',Aa5 c D (U8 ((DH m f D ((m.bx f D).take k).2.2.2).w D) ((m.bx f D).take k).1) x'→∀ K:Option Nat×A4→Prop,(∀ s,RepR c ra rb (ER (DH m f D ((m.bx f D).take k).2.2.2) D (U8 ((DH m f D ((m.bx f D).take k).2.2.2).w D) ((m.bx f D).take k).1)) o s _→K (some (ra D),s))→K (some (ra D),(ra D,x') :: BO (ra D) o3):=fun x' hx' K hK=>hK _ (h2.setW J hx')
  have U:∀ s,RepR c ra rb (ER (DH m f D ((m.bx f D).take k).2.2.2) D (U8 ((DH m f D ((m.bx f D).take k).2.2.2).w D) ((m.bx f D).take k).1)) o s ((rb (f*c.n+D),b') :: BO (rb (f*c.n+D)) o4)→_:=fun s hs=>wD hc hr J hs hle fun s' hs'=>V s' _ hs'
  unfold DR
  rw [hro]
  rcases hcn with ⟨hk6,W⟩ | ⟨hk7,W⟩
  · refine AU (by rw [hk6]; rfl) (DP hx (AA (by omega) (by simpa using hL1) ?_))
    rw [S4,X4]
    refine AA (by omega) (by simpa using hL2) (Z _ ?_ _ U)
    unfold U8
    rw [if_pos hk6]
    refine ⟨G.i,G.j,G.mask,G.out,G.at_,G.le,G.has,fun q hq=>?_,G.r⟩
    obtain ⟨a1,y,a2,a3⟩:=G.l q hq
    simp only [hro,Int.toNat_natCast,W,List.getElem?_set]
    by_cases eq:q=s
    · subst eq; simp [O hL1,O hL2]
    · simp only [if_neg (fun h:s=q=>eq h.symm),if_neg eq]; exact ⟨a1,y,a2,a3⟩
  · refine AC (by rw [hk7]; rfl) (DP hx (AA (by omega) (by simpa using hR1) ?_))
    rw [S4,X4]
    refine AA (by omega) (by simpa using hR2) (Z _ ?_ _ U)
    unfold U8
    rw [if_neg (by omega)]
    refine ⟨G.i,G.j,G.mask,G.out,G.at_,G.le,G.has,G.l,fun q hq=>?_⟩
    obtain ⟨a1,y,a2,a3⟩:=G.r q hq
    simp only [hro,Int.toNat_natCast,W,List.getElem?_set]
    by_cases eq:q=s
    · subst eq; simp [O hR1,O hR2]
    · simp only [if_neg (fun h:s=q=>eq h.symm),if_neg eq]; exact ⟨a1,y,a2,a3⟩
end Go.Proofs.YtbohadngdkjljaaGreat
