import Derived.Test.YtbohadngdkjljaaGreatOK
import Derived.Test.YtbohadngdkjljaaGreatSumM
namespace Go.Proofs.YtbohadngdkjljaaGreat
open Go Go.Fw
set_option linter.unusedVariables false
set_option linter.unusedSimpArgs false
variable {d:Data} {c:WM} {m:MS} {N:Nat}
def pX (c:WM) (l:List MY) (m:MS):MS:=l.foldl (fun m x=>(m.act c x).2) m
theorem AaT (c:WM) (l:List MY) (x:MY) (m:MS):pX c (l++[x]) m=((pX c l m).act c x).2:=by simp [pX]
theorem nG (hc:gE c):∀ (l:List MY) {m:MS},Live c N m→Good c m→Live c N (pX c l m)∧Good c (pX c l m)
  | [],_,h,g=>⟨h,g⟩
  | x :: l,m,h,g=>nG hc l (h.acted hc g x) (g.acted hc x)
abbrev Ag3 (o0:AC) (k:Int) (o1:List (Nat×AA)) (o2:List (Nat×AF)):Int×Int×Int×(List Int)×(List Int)×(List Int)×Int×Int×(List Int)×(List Int)×(List Int)×Int×Int×(List Int)×(List Int)×(List Int)×Int×Int×Int×(List BC)×(List (Option Nat))×(List ((Int×Int)×(Option Nat)))×Int×(List (Nat×AA))×(List (Nat×AF)):=
  (o0.p.Ring,o0.p.A.Rows,o0.p.A.Cols,o0.p.A.Start,o0.p.A.Col,o0.p.A.Val,o0.p.B.Rows,o0.p.B.Cols,o0.p.B.Start,o0.p.B.Col,o0.p.B.Val,o0.p.Mask.Rows,o0.p.Mask.Cols,o0.p.Mask.Start,o0.p.Mask.Col,o0.p.Mask.Val,o0.p.R,o0.p.C,o0.p.Room,o0.stages,o0.workers,o0.boxes,k,o1,o2)
theorem tT {l:List MY} (hl:l.length≤1048576) (h:∀ x∈l,Ad9 x=true) {Q:Bool→Prop} (hQ:Q false):BS l Q:=by
  unfold BS DR
  refine DL l.length (by omega) (fun _=>True) trivial (fun i next hi _ hnext=>?_) (fun next _=>?_)
  · refine AZ (by simp; omega) (BI hi ?_)
    unfold QD
    refine cO ?_
    rw [h _ (List.getElem_mem hi)]
    exact AN rfl (hnext trivial)
  · exact AN (by simp) hQ
theorem Ah2 (h0:DOk0 d) {l:List MY} {w:Nat} (hl:l.length≤1048576) (hmv:∀ x∈l,Ad9 x=true) (hw:w≤1048576)
    (hE:∀ (S:List BC) (ads:List Nat),aO (d.wS S)→gE ((d.wS S).ctx fun i=>ads.getD i 0)→(pR ((d.wS S).ctx fun i=>ads.getD i 0) w (pX ((d.wS S).ctx fun i=>ads.getD i 0) l (XR (d.wS S)))).ended ((d.wS S).ctx fun i=>ads.getD i 0)=true)
    {Q:(Rows×Bool×Int)→Prop} (hQ:Q ((VS d.r d.n d.q (eK d)).1,true,(VS d.r d.n d.q (eK d)).2)):RR d.p l (w:Int) Q:=by
  unfold RR
  refine AfG h0 fun S ads bk hS h hc hrep=>?_
  generalize hcc:((d.wS S).ctx fun i=>ads.getD i 0)=c at hc hrep
  have hrk:Rk c:=by rw [←hcc]; exact AiB h _
  have hg:Good c (XR (d.wS S)):=by rw [←hcc]; exact nE h _
  have hli:Live c (cQ c (XR (d.wS S))) (XR (d.wS S)):=by rw [←hcc]; exact nF h _
  have hend:=hE S ads h (by rw [hcc]; exact hc)
  rw [hcc] at hend
  refine AN rfl (AN (by simp; omega) (tT hl hmv (AN rfl (AN (by simp) (AN (by simp; omega) ?_)))))
  refine GJ (fun j x=>∃ (i:Nat) (a0:AC) (a1:List (Nat×AA)) (a2:List (Nat×AF)),x=Ag3 a0 (i:Int) a1 a2∧i+j=l.length∧Rep c (pX c (l.take i) (XR (d.wS S))) a0 a1 a2) (m0:=l.length) ⟨0,_,bk,[],rfl,by omega,hrep⟩ ?_
  rintro j _ next ⟨i,a0,a1,a2,rfl,hij,hr⟩ hnext
  show AP (decide ((i:Int)<(l.length:Int))) _ _
  obtain ⟨hlv,hgd⟩:=nG hc (l.take i) hli hg
  refine AB (fun hi=>?_) (fun hi=>?_)
  · have hi':i<l.length:=by omega
    refine BI hi' ?_
    refine AgZ hc hrk hr hgd (x:=l[i]) fun b0 b1 b2 hb _=>?_
    have ew:AH ((i:Int)+1)=((i+1:Nat):Int):=by rw [AY (by omega) (by omega)]; simp
    rw [ew]
    exact hnext (j - 1) _ (by omega) ⟨i+1,b0,b1,b2,rfl,by omega,by rw [List.take_succ_eq_append_getElem hi',AaT]; exact hb⟩
  · have hil:i=l.length:=by omega
    subst hil
    rw [List.take_length] at hr hlv hgd
    unfold FY
    refine GJ (fun j x=>∃ (i:Nat) (mm:MS) (a0:AC) (a1:List (Nat×AA)) (a2:List (Nat×AF)),x=Ag3 a0 (i:Int) a1 a2∧i+j=w∧Rep c mm a0 a1 a2∧Live c (cQ c (XR (d.wS S))) mm∧Good c mm∧pR c j mm=pR c w (pX c l (XR (d.wS S)))) (m0:=w) ⟨0,_,_,a1,a2,rfl,by omega,hr,hlv,hgd,rfl⟩ ?_
    rintro j2 _ next2 ⟨i,mm,b0,b1,b2,rfl,hij2,hrm,hlm,hgm,hrun⟩ hnext2
    have fin:mm.ended c=true→EA b0 b1 fun r2731=>DI b0 b1 fun r2752=>Q (r2731.1,r2752,r2731.2):=fun he=>by
      rw [←hcc] at he hrm hc
      refine pW h hrm he (tM hc hrm ?_)
      rw [he]
      exact hQ
    show AP (decide ((i:Int)<(w:Int))) _ _
    refine AB (fun hi=>?_) (fun hi=>?_)
    · obtain ⟨j3,rfl⟩:∃ j3,j2=j3+1:=⟨j2 - 1,by omega⟩
      refine tM hc hrm ?_
      cases he:mm.ended c with
      | true=>exact AN rfl (fin he)
      | false=>
        refine AZ rfl ?_
        refine mZ hc hrk hrm hgm fun e0 e1 e2 hre _=>?_
        have ew:AH ((i:Int)+1)=((i+1:Nat):Int):=by rw [AY (by omega) (by omega)]; simp
        rw [ew]
        refine hnext2 j3 _ (by omega) ⟨i+1,_,e0,e1,e2,rfl,by omega,hre,hlm.window hc hgm,hgm.window hc,?_⟩
        rw [←hrun]
        show _=if mm.ended c=true then mm else pR c j3 (mm.window c).2
        rw [he]
        rfl
    · have:j2=0:=by omega
      subst this
      refine fin ?_
      have:mm=pR c w (pX c l (XR (d.wS S))):=hrun
      rw [this]; exact hend
variable {d:Data} {c:WM} {m:MS} {N:Nat} {o0:AC} {o1:List (Nat×AA)} {o2:List (Nat×AF)}
theorem zD {x:Int} (h:inR .u8 x):∃ n:Nat,1≤n∧n≤4∧AH (((AH x).tmod 4)+1)=(n:Int):=by
  have hb:=bounds_u8 h
  rw [AY (x:=x) (by omega) (by omega),Int.tmod_eq_emod_of_nonneg (by omega),AY (by omega) (by omega)]
  exact ⟨(x % 4+1).toNat,by omega,by omega,by omega⟩
def wN (R C:Nat):Nat:=(R+C)*(R+C)+2
theorem AdJ (h:DOk0 d) {Q:Int→Prop} (hQ:Q ((wN d.R d.C:Nat):Int)):PP d.p Q:=by
  have hR:=h.R
  have hC:=h.C
  unfold PP
  refine tS h (AN rfl ?_)
  show Q (AH ((AH ((AH ((d.R:Int)+(d.C:Int)))*(AH ((d.R:Int)+(d.C:Int)))))+2))
  have e1:AH ((d.R:Int)+(d.C:Int))=((d.R+d.C:Nat):Int):=by rw [AY (by omega) (by omega)]; simp
  have hle:(d.R+d.C)*(d.R+d.C)≤16*16:=Nat.mul_le_mul (by omega) (by omega)
  have e2:((d.R+d.C:Nat):Int)*((d.R+d.C:Nat):Int)=(((d.R+d.C)*(d.R+d.C):Nat):Int):=by simp
  rw [e1,e2,AY (x:=(((d.R+d.C)*(d.R+d.C):Nat):Int)) (by omega) (by omega),AY (by omega) (by omega)]
  unfold wN at hQ
  rw [Int.natCast_add] at hQ
  exact hQ
theorem AfH (h:DOk0 d):wN d.R d.C≤258:=by
  have hle:(d.R+d.C)*(d.R+d.C)≤16*16:=Nat.mul_le_mul (by have:=h.R; have:=h.C; omega) (by have:=h.R; have:=h.C; omega)
  unfold wN; omega
theorem nH (w:Nat):∀ t,(X0 d w t).length≤t*(d.R+d.C)
  | 0=>by simp [X0]
  | t+1=>by
    rw [eL,List.length_append]
    have:=nH w t
    have h2:(UP d w t++TF d w t).length≤d.R+d.C:=by
      rw [List.length_append]; unfold UP TF; split <;> split <;> simp <;> omega
    rw [Nat.succ_mul]; omega
theorem AdK (h:aO d) {adr:Nat→Nat} (hc:gE (d.ctx adr)):(pR (d.ctx adr) (wN d.R d.C) (XR d)).ended (d.ctx adr)=true:=by
  refine nB hc _ (nF h adr) (nE h adr) (fun _ _ _ _=>rfl) fun k hk=>?_
  have h1:=nH (d:=d) k d.S.length
  have h2:d.S.length*(d.R+d.C)≤(d.R+d.C)*(d.R+d.C):=Nat.mul_le_mul_right _ (by have:=h.seg.len; omega)
  show (X0 d k d.S.length).length≤_
  unfold wN; omega
theorem wO (h:DOk0 d) {Q:(Rows×Bool×Int)→Prop} (hQ:Q ((VS d.r d.n d.q (eK d)).1,true,(VS d.r d.n d.q (eK d)).2)):RR d.p [] ((wN d.R d.C:Nat):Int) Q:=
  Ah2 h (by simp) (fun x hx=>absurd hx (List.not_mem_nil)) (by have:=AfH h; omega) (fun S ads hd hc=>AdK hd hc) hQ
theorem tU {n:Nat} (g:Nat→Nat→Nat):∀ (L:List (Int×Int)),L.Nodup→(∀ q∈L,∃ f t:Nat,f<n∧t<n∧q=((f:Int),(t:Int))) →
    (L.map fun q=>g q.1.toNat q.2.toNat).sum=LI (fun f=>LI (fun t=>if ((f:Int),(t:Int))∈L then g f t else 0) n) n
  | [],_,_=>by
    have e:LI (fun f:Nat=>LI (fun t:Nat=>if ((f:Int),(t:Int))∈([]:List (Int×Int)) then g f t else 0) n) n=LI (fun _=>0) n:=EG fun i hi=>by
      have:LI (fun t:Nat=>if ((i:Int),(t:Int))∈([]:List (Int×Int)) then g i t else 0) n=LI (fun _=>0) n:=EG fun j hj=>by simp
      rw [this,JG]; simp
    rw [e,JG]; simp
  | q :: L,hn,hk=>by
    rw [List.nodup_cons] at hn
    obtain ⟨f,t,hf,ht,rfl⟩:=hk q List.mem_cons_self
    have ih:=tU g L hn.2 fun q hq=>hk q (List.mem_cons_of_mem _ hq)
    have h1:=YO (g:=fun j:Nat=>if ((f:Int),(j:Int))∈L then g f j else 0) (g':=fun j:Nat=>if ((f:Int),(j:Int))∈((f:Int),(t:Int)) :: L then g f j else 0) ht (fun i hi=>by
      have:¬((f:Int),(i:Int))=((f:Int),(t:Int)):=by simp; omega
      simp only [List.mem_cons,this,false_or])
    have h2:=YO (g:=fun i:Nat=>LI (fun j:Nat=>if ((i:Int),(j:Int))∈L then g i j else 0) n) (g':=fun i:Nat=>LI (fun j:Nat=>if ((i:Int),(j:Int))∈((f:Int),(t:Int)) :: L then g i j else 0) n) hf (fun i hi=>EG fun j hj=>by
      have:¬((i:Int),(j:Int))=((f:Int),(t:Int)):=by simp; omega
      simp only [List.mem_cons,this,false_or])
    rw [if_neg hn.1] at h1
    rw [if_pos List.mem_cons_self] at h1
    rw [List.map_cons,List.sum_cons,ih]
    simp only [Int.toNat_natCast]
    omega
variable {d:Data}
theorem zF (g g':Nat→Nat):∀ n,LI (fun i=>g i+g' i) n=LI g n+LI g' n
  | 0=>rfl
  | n+1=>by unfold LI; rw [zF g g' n]; omega
def AaU (E:List AM) (a b:Int):Nat:=E.countP fun e=>decide (e.From=a∧e.To=b)
theorem AaV (e:AM) (E:List AM) (a b:Int):AaU (e :: E) a b=AaU E a b+if e.From=a∧e.To=b then 1 else 0:=by
  unfold AaU
  rw [List.countP_cons]
  simp
def FP (es:List AM):List AM:=(NJ (SC 1 (es.map oN)) mkE).1
theorem AfI (a:AQ):FS (KW a).1:=by
  unfold KW FS
  split
  · rw [IZ]; omega
  · simp
theorem AaW (es:List AM):∀ e∈FP es,FS e.W:=by
  intro e he
  unfold FP NJ at he
  split at he
  · obtain ⟨p,_,rfl⟩:=List.mem_map.1 he
    exact AfI _
  · cases he
theorem VT {es:List AM} (h:∀ e∈es,FS e.W):(FP es).length≤es.length:=by
  have:=(WD 1 (es.map oN) (fun t ht=>by obtain ⟨e,he,rfl⟩:=List.mem_map.1 ht; exact h e he)).1
  unfold FP NJ
  split
  · simpa using this
  · simp
theorem NO {g:AL} {Q:AL→Prop} (hl:g.Edges.length≤1000000) (hv:∀ e∈g.Edges,FS e.W) (hQ:Q ⟨g.N,FP g.Edges⟩):IF g Q:=by
  unfold IF; exact jE (by omega) hl hv hQ
theorem nI {α:Type} {p:α→Bool} {xs:List α} {i:Nat} (h:i<xs.length):(xs.take (i+1)).filter p=(xs.take i).filter p++(if p xs[i] then [xs[i]] else []):=by
  rw [List.take_succ_eq_append_getElem h,List.filter_append]
  congr 1
  simp [List.filter_cons]
def wP (e:AM):AM:=⟨e.From,e.To,1⟩
def aA (g:AL):AL:=⟨g.N,FP (g.Edges.map wP)⟩
def ZG (g:AL):AL:=⟨g.N,FP (g.Edges.map ZD)⟩
def XS (g:AL):AL:=⟨g.N,FP (g.Edges++(ZG g).Edges)⟩
theorem tV {α:Type} {p:α→Bool} {xs:List α} {i:Nat} (h:i≤xs.length):((xs.take i).filter p).length≤i:=by
  have:=List.length_filter_le p (xs.take i)
  rw [List.length_take] at this; omega
theorem AdL {g:AL} {Q:AL→Prop} (hl:g.Edges.length≤1000000) (hQ:Q (aA g)):UG g Q:=by
  unfold UG SP NE
  refine AV (fun (s:List AM) i=>(s,i)) 0 g.Edges.length (by omega) (fun i s=>s=(g.Edges.take i).map wP) (by omega) rfl (fun i s next _ hi hm hn=>?_) (fun s next hm=>?_)
  · subst hm
    refine AB (fun _=>BI hi (AZ rfl (BE (by simp; omega) (hn _ ?_)))) (fun h=>by omega)
    rw [HU hi]; rfl
  · subst hm
    refine AB (fun h=>by omega) (fun _=>?_)
    rw [List.take_length]
    exact NO (by simpa using hl) (fun e he=>by obtain ⟨x,_,rfl⟩:=List.mem_map.1 he; unfold FS wP; simp) hQ
theorem AdM {g:AL} {Q:AL→Prop} (hl:g.Edges.length≤1000000) (hv:∀ e∈g.Edges,FS e.W) (hQ:Q (ZG g)):OL g Q:=by
  unfold OL NG KN
  refine AV (fun (s:List AM) i=>(s,i)) 0 g.Edges.length (by omega) (fun i s=>s=(g.Edges.take i).map ZD) (by omega) rfl (fun i s next _ hi hm hn=>?_) (fun s next hm=>?_)
  · subst hm
    refine AB (fun _=>BI hi (AZ rfl (BE (by simp; omega) (hn _ ?_)))) (fun h=>by omega)
    rw [HU hi]; rfl
  · subst hm
    refine AB (fun h=>by omega) (fun _=>?_)
    rw [List.take_length]
    exact NO (by simpa using hl) (fun e he=>by obtain ⟨x,hx,rfl⟩:=List.mem_map.1 he; exact hv x hx) hQ
theorem wQ {g:AL} (hl:g.Edges.length≤500000) (hv:∀ e∈g.Edges,FS e.W):(ZG g).Edges.length≤g.Edges.length∧∀ e∈(ZG g).Edges,FS e.W:=by
  refine ⟨?_,AaW _⟩
  have:=VT (es:=g.Edges.map ZD) (fun e he=>by obtain ⟨x,hx,rfl⟩:=List.mem_map.1 he; exact hv x hx)
  simpa [ZG] using this
theorem AaX {xs ys:List AM} {Q:List AM→Prop} (hl:xs.length+ys.length≤1000000) (hQ:Q (xs++ys)):DK [xs,ys] Q:=by
  unfold DK FA
  refine AV (fun (s:Int) i=>(s,i)) 0 2 (by omega) (fun i s=>s=(((([xs,ys]:List (List AM)).take i).map List.length).sum:Nat)) (by omega) (by simp) (fun i s next _ hi hm hn=>?_) (fun s next hm=>?_)
  · subst hm
    refine AB (fun _=>?_) (fun h=>by simp at h; omega)
    match i,hi,hn with
    | 0,_,hn=>
      refine AO (x:=xs) (by omega) rfl ?_
      have e:AH (((([xs,ys]:List (List AM)).take 0).map List.length).sum+(xs.length:Int))=xs.length:=by simp; exact AY (by omega) (by omega)
      rw [e]
      exact AB (fun h=>by omega) (fun _=>hn _ (by simp))
    | 1,_,hn=>
      refine AO (x:=ys) (by omega) rfl ?_
      have e:AH (((([xs,ys]:List (List AM)).take 1).map List.length).sum+(ys.length:Int))=xs.length+ys.length:=by simp; exact AY (by omega) (by omega)
      rw [e]
      exact AB (fun h=>by omega) (fun _=>hn _ (by simp))
  · subst hm
    refine AB (fun h=>by simp at h) (fun _=>?_)
    have e:((((([xs,ys]:List (List AM)).take 2).map List.length).sum:Nat):Int)=xs.length+ys.length:=by simp
    rw [e,AY (x:=0 - 0) (by omega) (by omega),AY (x:=(xs.length:Int)+ys.length - (0 - 0)) (by omega) (by omega)]
    have hk:BB (fun (s:(List AM)×Int) (next273:((List AM)×Int)→Prop)=>match s with | (s268,s272)=>AP (decide (s272<((([xs,ys]:List (List AM)).length:Nat):Int))) (BD [xs,ys] s272 fun x281=>HI 24 s268 x281 fun _=>next273 ((s268++x281),AH (s272+1))) (Q s268)) ([],0):=by
      refine AV (fun (s:List AM) i=>(s,i)) 0 2 (by omega) (fun i s=>s=(([xs,ys]:List (List AM)).take i).flatten) (by omega) (by simp) (fun i s next _ hi hm hn=>?_) (fun s next hm=>?_)
      · subst hm
        refine AB (fun _=>?_) (fun h=>by simp at h; omega)
        match i,hi,hn with
        | 0,_,hn=>exact AO (x:=xs) (by omega) rfl (BE (by simp; omega) (hn _ (by simp)))
        | 1,_,hn=>exact AO (x:=ys) (by omega) rfl (BE (by simp; omega) (hn _ (by simp)))
      · subst hm
        refine AB (fun h=>by simp at h) (fun _=>?_)
        simpa using hQ
    exact AB (fun h=>by omega) (fun _=>AB (fun h=>⟨by omega,by omega,hk⟩) (fun h=>hk))
theorem AfJ {g:AL} {Q:AL→Prop} (hl:g.Edges.length≤100000) (hv:∀ e∈g.Edges,FS e.W) (hQ:Q (XS g)):W5 g Q:=by
  unfold W5
  have ht:=wQ (by omega) hv
  refine AdM (by omega) hv (AaX (by omega) (NO (by simp; omega) (fun e he=>?_) hQ))
  rcases List.mem_append.1 he with h | h
  · exact hv e h
  · exact ht.2 e h
theorem Ah3 (x:Int) {m:Nat} (hm:m<9223372036854775808):0≤fY .i64 x m∧fY .i64 x m≤m:=by
  have h:(BitVec.ofInt 64 x &&& BitVec.ofInt 64 (m:Int)).toNat≤m:=by
    rw [BitVec.toNat_and,BitVec.toNat_ofInt (n:=64) (i:=(m:Int))]
    have hp:((2 ^ 64:Nat):Int)=18446744073709551616:=by decide
    rw [hp,show ((m:Int) % 18446744073709551616).toNat=m by omega]
    exact Nat.and_le_right
  unfold fY
  rw [show IntKind.i64.bits=64 from rfl]
  generalize (BitVec.ofInt 64 x &&& BitVec.ofInt 64 (m:Int)).toNat=k at h
  have e:IntKind.i64.wrap (k:Int)=k:=AY (by omega) (by omega)
  rw [e]; omega
theorem YR {k n:Int} {Q:Int→Prop} (h0:n<1→Q 0) (h1:1≤n→∀ r,0≤r→r<n→Q r):IM k n Q:=by
  unfold IM
  refine AB (fun h=>h0 h) (fun h=>AB (fun h2=>h1 (by omega) 0 (by omega) (by omega)) (fun h2=>⟨by omega,?_⟩))
  rw [Int.tmod_eq_emod_of_nonneg (by omega)]
  exact h1 (by omega) _ (Int.emod_nonneg _ (by omega)) (Int.emod_lt_of_pos _ (by omega))
theorem cT {z:Int} (h:FS z):KW (NX z)=(z,true):=by
  unfold KW NX
  unfold FS at h
  simp only [IZ]
  rw [if_pos (by omega)]
  rw [Prod.mk.injEq]
  exact ⟨by omega,rfl⟩
theorem tW {k:EX} {v:AQ}:∀ {l:List (EX×AQ)} {p:EX×AQ},p∈ins 1 k v l→p=(k,v)∨p∈l
  | [],p,h=>by simp [ins] at h; exact .inl h
  | q :: l,p,h=>by
    unfold ins at h
    split at h
    · rcases List.mem_cons.1 h with rfl | h
      · exact .inr (by simp)
      · rcases tW h with h | h
        · exact .inl h
        · exact .inr (by simp [h])
    · split at h
      · rename_i hk
        rcases List.mem_cons.1 h with rfl | h
        · unfold GG
          rw [if_pos (.inl rfl)]
          split
          · right
            obtain ⟨q1,q2⟩:=q
            simp only at hk
            subst hk; simp
          · exact .inl rfl
        · exact .inr (by simp [h])
      · rcases List.mem_cons.1 h with rfl | h
        · exact .inl rfl
        · exact .inr h
theorem AfK:∀ {ts:List (EX×Int)} {p:EX×AQ},p∈SC 1 ts→∃ t∈ts,p=(t.1,QA t.2):=by
  suffices ∀ (ts:List (EX×Int)) (l:List (EX×AQ)) p,p∈ts.foldl (fun l t=>ins 1 t.1 (QA t.2) l) l→(∃ t∈ts,p=(t.1,QA t.2))∨p∈l from fun {ts p} h=>by
    rcases this ts [] p h with h | h
    · exact h
    · simp at h
  intro ts
  induction ts with
  | nil=>intro l p h; exact .inr h
  | cons t ts ih=>
    intro l p h
    rcases ih _ _ h with ⟨x,hx,e⟩ | hq
    · exact .inl ⟨x,by simp [hx],e⟩
    · rcases tW hq with e2 | h2
      · exact .inl ⟨t,by simp,e2⟩
      · exact .inr h2
theorem RU {es:List AM} (hv:∀ e∈es,FS e.W) {e:AM} (he:e∈FP es):e∈es:=by
  unfold FP NJ at he
  split at he
  · obtain ⟨p,hp,rfl⟩:=List.mem_map.1 he
    obtain ⟨t,ht,rfl⟩:=AfK hp
    obtain ⟨x,hx,rfl⟩:=List.mem_map.1 ht
    simp only [oN]
    rw [oV (hv x hx)]
    exact hx
  · cases he
def HW (n:Int) (es:List AM):Prop:=∀ e∈es,gW n e∧mP e
theorem ET {n:Int} {es:List AM} (h:HW n es):∀ e∈es,FS e.W:=fun e he=>by have:=(h e he).2; unfold mP at this; unfold FS; omega
theorem PZ {n:Int} {es:List AM} (h:HW n es):HW n (FP es):=fun e he=>h e (RU (ET h) he)
theorem RV {n:Int} {es:List AM} (h:HW n es):HW n (es.map wP):=fun e he=>by
  obtain ⟨x,hx,rfl⟩:=List.mem_map.1 he
  exact ⟨(h x hx).1,by unfold mP wP; simp⟩
theorem TG {n:Int} {es:List AM} (h:HW n es):HW n (es.map ZD):=fun e he=>by
  obtain ⟨x,hx,rfl⟩:=List.mem_map.1 he
  have:=h x hx
  exact ⟨⟨this.1.2,this.1.1⟩,this.2⟩
theorem nJ {n:Int} {xs ys:List AM} (h:HW n xs) (h':HW n ys):HW n (xs++ys):=fun e he=>by
  rcases List.mem_append.1 he with h1 | h1
  · exact h e h1
  · exact h' e h1
theorem TH {g:AL} (h:GN g=0):HW g.N g.Edges:=fun e he=>⟨(KH h).2.2.2.1 e he,(KH h).2.2.2.2 e he⟩
theorem kD {g:AL} (h0:0≤g.N∧g.N≤4096) (hl:g.Edges.length≤65536) (h:HW g.N g.Edges):GN g=0:=by
  unfold GN
  rw [if_neg (by omega),if_neg (by omega),if_neg (fun h'=>h' fun e he=>(h e he).1),if_neg (fun h'=>h' fun e he=>(h e he).2)]
def noL (es:List AM):Prop:=∀ e∈es,e.From≠e.To
theorem kE {g:AL} (h:HW g.N g.Edges):HW (aA g).N (aA g).Edges∧(aA g).Edges.length≤g.Edges.length∧(noL g.Edges→noL (aA g).Edges):=by
  refine ⟨PZ (RV h),?_,fun hn e he=>?_⟩
  · have:=VT (ET (RV h)); rwa [List.length_map] at this
  · have:=RU (ET (RV h)) he
    obtain ⟨x,hx,rfl⟩:=List.mem_map.1 this
    exact hn x hx
theorem nK {g:AL} (h:HW g.N g.Edges):HW (XS g).N (XS g).Edges∧(XS g).Edges.length≤2*g.Edges.length∧(noL g.Edges→noL (XS g).Edges):=by
  have ht:HW g.N (ZG g).Edges:=PZ (TG h)
  have ha:=nJ h ht
  refine ⟨PZ ha,?_,fun hn e he=>?_⟩
  · have h1:=VT (ET ha)
    have h2:=VT (ET (TG h))
    rw [List.length_append] at h1
    rw [List.length_map] at h2
    have:(ZG g).Edges.length≤g.Edges.length:=h2
    show (FP _).length≤_
    omega
  · rcases List.mem_append.1 (RU (ET ha) he) with h1 | h1
    · exact hn e h1
    · obtain ⟨x,hx,rfl⟩:=List.mem_map.1 (RU (ET (TG h)) h1)
      exact fun e=>hn x hx e.symm
theorem AdN {a:AL} {Q:AL→Prop} (hQ:∀ g:AL,0≤g.N∧g.N≤23→g.Edges.length≤60→GN g=0→Q g):UD a Q:=by
  unfold UD
  refine YR (fun h=>by omega) (fun _ n h0 h1=>?_)
  have hend:∀ es:List AM,es.length≤60→HW n es→Q ⟨n,es⟩:=fun es he hg=>hQ _ ⟨h0,by simp only; omega⟩ he (kD (by simp only; omega) (by simp only; omega) hg)
  refine AV (fun (s:List AM) i=>(s,i)) 0 (min a.Edges.length 60) (by omega) (fun i s=>s.length≤i∧HW n s) (by omega) (s0:=[]) ⟨by simp,by intro e he; simp at he⟩ (fun i s next _ hi hm hn=>?_) (fun s next hm=>?_)
  · dsimp only
    refine AB (fun _=>AB (fun _=>AB (fun hn0=>BI (by omega) ?_) (fun _=>hend s (by omega) hm.2)) (fun h=>by omega)) (fun h=>by omega)
    refine YR (fun h=>by omega) fun _ u u0 u1=>YR (fun h=>by omega) fun _ v v0 v1=>BE (by simp; omega) (hn _ ⟨by simp; omega,fun e he=>?_⟩)
    rcases List.mem_append.1 he with h | h
    · exact hm.2 e h
    · rw [List.mem_singleton.1 h]
      have:=Ah3 (a.Edges[i]'(by omega)).W (m:=2147483647) (by omega)
      refine ⟨⟨⟨u0,u1⟩,v0,v1⟩,?_⟩
      unfold mP
      simp only; omega
  · dsimp only
    exact AB (fun _=>AB (fun _=>by omega) (fun _=>hend s (by omega) hm.2)) (fun _=>hend s (by omega) hm.2)
def ltE (a b:AM):Prop:=TT (a.From,a.To) (b.From,b.To)
theorem AaY {es:List AM} (h:∀ e∈es,FS e.W):(FP es).Pairwise ltE:=by
  unfold FP
  rw [bZ (fun t ht=>by obtain ⟨e,he,rfl⟩:=List.mem_map.1 ht; exact h e he)]
  simp only
  rw [List.pairwise_map]
  exact (UY 1 (es.map oN)).imp fun {a b} hab=>hab
theorem wR {es:List AM} (h:∀ e∈es,FS e.W) (hs:es.Pairwise ltE):FP es=es:=by
  have e1:es.map oN=(es.map e2t).map rU:=by rw [List.map_map]; rfl
  have hs':Srt (es.map e2t):=by
    unfold Srt
    rw [List.pairwise_map]
    exact hs.imp fun {a b} hab=>hab
  unfold FP
  rw [bZ (fun t ht=>by obtain ⟨e,he,rfl⟩:=List.mem_map.1 ht; exact h e he)]
  simp only
  rw [e1,yM hs',List.map_map,List.map_map]
  conv=>rhs; rw [←List.map_id es]
  refine List.map_congr_left fun e he=>?_
  simp only [Function.comp_apply,e2t,key,id_eq]
  rw [oV (h e he)]
  rfl
theorem AaZ {g:AL} (h:∀ e∈g.Edges,FS e.W) {t:AD}:t∈DF g↔(⟨t.Col,t.Row,t.Val⟩:AM)∈FP g.Edges:=by
  have hv1:∀ t∈g.Edges.map oN,FS t.2:=fun t ht=>by obtain ⟨e,he,rfl⟩:=List.mem_map.1 ht; exact h e he
  have hv2:∀ t∈g.Edges.map kvF,FS t.2:=fun t ht=>by obtain ⟨e,he,rfl⟩:=List.mem_map.1 ht; exact h e he
  unfold DF FP
  rw [bZ hv1,bZ hv2]
  simp only
  rw [List.mem_map,List.mem_map]
  constructor
  · rintro ⟨p,hp,rfl⟩
    obtain ⟨q,hq,rfl⟩:=List.mem_map.1 ((yL g.Edges).mem_iff.2 hp)
    exact ⟨q,hq,rfl⟩
  · rintro ⟨q,hq,he⟩
    refine ⟨sw q,(yL g.Edges).mem_iff.1 (List.mem_map_of_mem hq),?_⟩
    obtain ⟨tr,tc,tv⟩:=t
    unfold mkE at he
    simp only [AM.mk.injEq] at he
    obtain ⟨h1,h2,h3⟩:=he
    unfold rV sw
    simp only [AD.mk.injEq]
    exact ⟨h2,h1,h3⟩
def TI:Nat→(Nat→Int)→Int
  | 0,_=>0
  | n+1,f=>TI n f+f n
def gO (o:Option Int):Int:=(AiT o).1
theorem kF {f g:Nat→Int}:∀ {n:Nat},(∀ j,j<n→f j=g j)→TI n f=TI n g
  | 0,_=>rfl
  | n+1,h=>by show TI n f+f n=TI n g+g n; rw [kF fun j hj=>h j (by omega),h n (by omega)]
theorem kG {f:Nat→Int} {b:Int}:∀ {n:Nat},(∀ j,j<n→0≤f j∧f j≤b)→0≤TI n f∧TI n f≤n*b
  | 0,_=>by simp [TI]
  | n+1,h=>by
    have h1:=kG (n:=n) fun j hj=>h j (by omega)
    have h2:=h n (by omega)
    show 0≤TI n f+f n∧TI n f+f n≤((n+1:Nat):Int)*b
    have e:((n+1:Nat):Int)*b=n*b+b:=by rw [Int.natCast_succ,Int.add_mul,Int.one_mul]
    omega
theorem AiC (A B:Int→Option Int):∀ n:Nat,(XM 5 n A B=none∧TI n (fun j=>gO (A j)*gO (B j))=0)∨XM 5 n A B=some (NX (TI n fun j=>gO (A j)*gO (B j)))
  | 0=>.inl ⟨rfl,rfl⟩
  | n+1=>by
    have ih:=AiC A B n
    rw [dV]
    unfold fO
    show (_∧TI n (fun j=>gO (A j)*gO (B j))+gO (A n)*gO (B n)=0)∨_=some (NX (TI n (fun j=>gO (A j)*gO (B j))+gO (A n)*gO (B n)))
    generalize TI n (fun j=>gO (A j)*gO (B j))=s at ih ⊢
    cases A n with
    | none=>
      have e:gO none*gO (B n)=0:=by show (0:Int)*_=0; omega
      rw [e,Int.add_zero]; exact ih
    | some a=>
      cases B n with
      | none=>
        have e:gO (some a)*gO none=0:=by show _*(0:Int)=0; omega
        rw [e,Int.add_zero]; exact ih
      | some x=>
        have em:jK 5 a x=NX (a*x):=rfl
        have e:gO (some a)*gO (some x)=a*x:=rfl
        rw [e]
        dsimp only
        rw [em]
        rcases ih with ⟨h1,h2⟩ | h1
        · rw [h1,h2,Int.zero_add]; exact .inr rfl
        · rw [h1]
          refine .inr ?_
          show some (GG 5 (NX s) (NX (a*x)))=_
          rw [RA]
def aT (T:List AD) (u j:Nat):Int:=gO (WW (cF T u) j)
theorem AdO {rows cols:Int} {T:List AD} (h:Canon rows cols T) {b:Int} (hb0:0≤b) (hb:∀ t∈T,0≤t.Val∧t.Val≤b) (u j:Nat):0≤aT T u j∧aT T u j≤b:=by
  unfold aT
  cases e:WW (cF T u) j with
  | none=>show (0:Int)≤0∧(0:Int)≤b; omega
  | some x=>exact hb _ ((TC h (by omega)).1 e)
theorem Ah4 {a x b c:Int} (h1:0≤a∧a≤b) (h2:0≤x∧x≤c):0≤a*x∧a*x≤b*c:=
  ⟨Int.mul_nonneg h1.1 h2.1,Int.mul_le_mul h1.2 h2.2 h2.1 (by omega)⟩
structure Light (n:Nat) (T:List AD):Prop where
  can:Canon n n T
  small:n≤30
  val:∀ t∈T,0≤t.Val∧t.Val≤7
theorem Light.a {n:Nat} {T:List AD} (h:Light n T) (u j:Nat):0≤aT T u j∧aT T u j≤7:=AdO h.can (by omega) h.val u j
theorem Light.s {n:Nat} {T:List AD} (h:Light n T) {f:Nat→Int} (hf:∀ j,0≤f j∧f j≤7) (u:Nat):0≤TI n (fun j=>aT T u j*f j)∧TI n (fun j=>aT T u j*f j)≤1470:=by
  have h1:=kG (f:=fun j=>aT T u j*f j) (b:=49) (n:=n) fun j _=>Ah4 (c:=7) (h.a u j) (hf j)
  have:=h.small
  omega
theorem Light.int {n:Nat} {T:List AD} (h:Light n T) {t:AD} (ht:t∈T):FS t.Val:=by have:=h.val t ht; unfold FS; omega
theorem tX {T:List AD} {n:Nat} (h:Light n T) (i c:Nat) :
    (MM 5 T T i c=none∧TI n (fun j=>aT T i j*aT T j c)=0)∨MM 5 T T i c=some (NX (TI n fun j=>aT T i j*aT T j c)):=by
  rw [TD h.can (by omega)]
  exact AiC (WW (cF T i)) (wD T c) n
theorem wT {r:Int} {c:AK} {t:AD} (h:pE r c=some t):t.Row=c.Row∧t.Col=c.Col:=by
  unfold pE at h
  split at h
  · cases h; exact ⟨rfl,rfl⟩
  · cases h
theorem AdP {a b:Int}:∀ {E:List AM},E.Pairwise ltE→AaU E a b=if ∃ e∈E,e.From=a∧e.To=b then 1 else 0
  | [],_=>by simp [AaU]
  | e :: E,h=>by
    have ih:=AdP (a:=a) (b:=b) (List.Pairwise.of_cons h)
    rw [AaV,ih]
    by_cases he:e.From=a∧e.To=b
    · have hno:¬ ∃ x∈E,x.From=a∧x.To=b:=by
        rintro ⟨x,hx,h1,h2⟩
        have:=List.rel_of_pairwise_cons h hx
        unfold ltE at this
        rw [he.1,he.2,h1,h2] at this
        exact GH _ this
      rw [if_neg hno,if_pos he,if_pos ⟨e,List.mem_cons_self,he⟩]
    · rw [if_neg he]
      by_cases hx:∃ x∈E,x.From=a∧x.To=b
      · obtain ⟨x,hx,h1⟩:=hx
        rw [if_pos ⟨x,hx,h1⟩,if_pos ⟨x,List.mem_cons_of_mem _ hx,h1⟩]
      · rw [if_neg hx,if_neg]
        rintro ⟨x,hx',h1⟩
        rcases List.mem_cons.1 hx' with rfl | hx'
        · exact he h1
        · exact hx ⟨x,hx',h1⟩
structure PlainP (n:Nat) (g:AL):Prop where
  N:g.N=n
  good:HW g.N g.Edges
  srt:g.Edges.Pairwise ltE
  one:∀ e∈g.Edges,e.W=1
theorem AfL {g:AL} {n:Nat} (hN:g.N=n) (h:HW g.N g.Edges):PlainP n (aA g):=by
  refine ⟨hN,(kE h).1,AaY (ET (RV h)),fun e he=>?_⟩
  have:=RU (ET (RV h)) he
  obtain ⟨x,_,rfl⟩:=List.mem_map.1 this
  rfl
variable {n:Nat} {g:AL}
theorem PlainP.mem (h:PlainP n g) {t:AD}:t∈DF g↔(⟨t.Col,t.Row,t.Val⟩:AM)∈g.Edges:=by
  rw [AaZ (ET h.good),wR (ET h.good) h.srt]
theorem PlainP.right (h:PlainP n g) (hn:n≤4096) (hl:g.Edges.length≤65536):GN g=0:=kD (by rw [h.N]; omega) hl h.good
theorem PlainP.light (h:PlainP n g) (hn:n≤30) (hl:g.Edges.length≤65536):Light n (DF g):=by
  have hc:=fN (h.right (by omega) hl)
  rw [h.N] at hc
  exact ⟨hc,hn,fun t ht=>by have:=h.one _ (h.mem.1 ht); simp only at this; omega⟩
theorem PlainP.val (h:PlainP n g) (hc:Canon n n (DF g)) (u j:Nat):aT (DF g) u j=(AaU g.Edges (j:Int) (u:Int):Int):=by
  rw [AdP h.srt]
  unfold aT
  cases e:WW (cF (DF g) u) j with
  | some x=>
    have hm:=h.mem.1 ((TC hc (by omega)).1 e)
    rw [if_pos ⟨_,hm,rfl,rfl⟩]
    have:=h.one _ hm
    simp only at this
    show x=_
    rw [this]; rfl
  | none=>
    rw [if_neg]
    · rfl
    · rintro ⟨x,hx,h1,h2⟩
      have:(⟨(u:Int),(j:Int),x.W⟩:AD)∈DF g:=h.mem.2 (by simp only; rw [←h1,←h2]; exact hx)
      rw [(TC hc (by omega)).2 this] at e
      cases e
theorem tY (f:Nat→Nat):∀ m:Nat,TI m (fun j=>(f j:Int))=(LI f m:Int)
  | 0=>rfl
  | m+1=>by show TI m (fun j=>(f j:Int))+(f m:Int)=_; rw [tY f m]; show _=((LI f m+f m:Nat):Int); omega
end Go.Proofs.YtbohadngdkjljaaGreat
