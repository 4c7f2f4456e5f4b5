import Derived.Test.YtbohadngdkjljaaGreatOK
import Derived.Test.YtbohadngdkjljaaGreatSumM
namespace Go.Proofs.YtbohadngdkjljaaGreat
open Go Go.Fw
set_option linter.unusedVariables false
set_option linter.unusedSimpArgs false
variable {d:Data} {c:WL} {m:MS} {N:Nat}
def pT (c:WL) (l:List MY) (m:MS):MS:=l.foldl (fun m x=>(m.act c x).2) m
theorem AaU (c:WL) (l:List MY) (x:MY) (m:MS):pT c (l++[x]) m=((pT c l m).act c x).2:=by simp [pT]
theorem nA (hc:fY c):∀ (l:List MY) {m:MS},Live c N m→Good c m→Live c N (pT c l m)∧Good c (pT c l m)
  | [],_,h,g=>⟨h,g⟩
  | x :: l,m,h,g=>nA hc l (h.acted hc g x) (g.acted hc x)
abbrev Ag3 (o0:AB) (k:Int) (o1:List (Nat×AA)) (o2:List (Nat×AF)):Int×Int×Int×(List Int)×(List Int)×(List Int)×Int×Int×(List Int)×(List Int)×(List Int)×Int×Int×(List Int)×(List Int)×(List Int)×Int×Int×Int×(List BC)×(List (Option Nat))×(List ((Int×Int)×(Option Nat)))×Int×(List (Nat×AA))×(List (Nat×AF)):=
  (o0.p.Ring,o0.p.A.Rows,o0.p.A.Cols,o0.p.A.Start,o0.p.A.Col,o0.p.A.Val,o0.p.B.Rows,o0.p.B.Cols,o0.p.B.Start,o0.p.B.Col,o0.p.B.Val,o0.p.Mask.Rows,o0.p.Mask.Cols,o0.p.Mask.Start,o0.p.Mask.Col,o0.p.Mask.Val,o0.p.R,o0.p.C,o0.p.Room,o0.stages,o0.workers,o0.boxes,k,o1,o2)
theorem tO {l:List MY} (hl:l.length≤1048576) (h:∀ x∈l,AdA x=true) {Q:Bool→Prop} (hQ:Q false):BT l Q:=by
  unfold BT DQ
  refine EC l.length (by omega) (fun _=>True) trivial (fun i next hi _ hnext=>?_) (fun next _=>?_)
  · refine BF (by simp; omega) (AV hi ?_)
    unfold QA
    refine cI ?_
    rw [h _ (List.getElem_mem hi)]
    exact AN rfl (hnext trivial)
  · exact AN (by simp) hQ
theorem Ah2 (h0:DOk0 d) {l:List MY} {w:Nat} (hl:l.length≤1048576) (hmv:∀ x∈l,AdA x=true) (hw:w≤1048576)
    (hE:∀ (S:List BC) (ads:List Nat),aK (d.wS S)→fY ((d.wS S).ctx fun i=>ads.getD i 0)→(pN ((d.wS S).ctx fun i=>ads.getD i 0) w (pT ((d.wS S).ctx fun i=>ads.getD i 0) l (XQ (d.wS S)))).ended ((d.wS S).ctx fun i=>ads.getD i 0)=true)
    {Q:(Rows×Bool×Int)→Prop} (hQ:Q ((VT d.r d.n d.q (eH d)).1,true,(VT d.r d.n d.q (eH d)).2)):RP d.p l (w:Int) Q:=by
  unfold RP
  refine AfG h0 fun S ads bk hS h hc hrep=>?_
  generalize hcc:((d.wS S).ctx fun i=>ads.getD i 0)=c at hc hrep
  have hrk:Rk c:=by rw [←hcc]; exact Ai7 h _
  have hg:Good c (XQ (d.wS S)):=by rw [←hcc]; exact mY h _
  have hli:Live c (cK c (XQ (d.wS S))) (XQ (d.wS S)):=by rw [←hcc]; exact mZ h _
  have hend:=hE S ads h (by rw [hcc]; exact hc)
  rw [hcc] at hend
  refine AN rfl (AN (by simp; omega) (tO hl hmv (AN rfl (AN (by simp) (AN (by simp; omega) ?_)))))
  refine GI (fun j x=>∃ (i:Nat) (a0:AB) (a1:List (Nat×AA)) (a2:List (Nat×AF)),x=Ag3 a0 (i:Int) a1 a2∧i+j=l.length∧Rep c (pT c (l.take i) (XQ (d.wS S))) a0 a1 a2) (m0:=l.length) ⟨0,_,bk,[],rfl,by omega,hrep⟩ ?_
  rintro j _ next ⟨i,a0,a1,a2,rfl,hij,hr⟩ hnext
  show AQ (decide ((i:Int)<(l.length:Int))) _ _
  obtain ⟨hlv,hgd⟩:=nA hc (l.take i) hli hg
  refine AC (fun hi=>?_) (fun hi=>?_)
  · have hi':i<l.length:=by omega
    refine AV hi' ?_
    refine AgZ hc hrk hr hgd (x:=l[i]) fun b0 b1 b2 hb _=>?_
    have ew:AH ((i:Int)+1)=((i+1:Nat):Int):=by rw [AX (by omega) (by omega)]; simp
    rw [ew]
    exact hnext (j - 1) _ (by omega) ⟨i+1,b0,b1,b2,rfl,by omega,by rw [List.take_succ_eq_append_getElem hi',AaU]; exact hb⟩
  · have hil:i=l.length:=by omega
    subst hil
    rw [List.take_length] at hr hlv hgd
    unfold FW
    refine GI (fun j x=>∃ (i:Nat) (mm:MS) (a0:AB) (a1:List (Nat×AA)) (a2:List (Nat×AF)),x=Ag3 a0 (i:Int) a1 a2∧i+j=w∧Rep c mm a0 a1 a2∧Live c (cK c (XQ (d.wS S))) mm∧Good c mm∧pN c j mm=pN c w (pT c l (XQ (d.wS S)))) (m0:=w) ⟨0,_,_,a1,a2,rfl,by omega,hr,hlv,hgd,rfl⟩ ?_
    rintro j2 _ next2 ⟨i,mm,b0,b1,b2,rfl,hij2,hrm,hlm,hgm,hrun⟩ hnext2
    have fin:mm.ended c=true→DZ b0 b1 fun r2731=>DI b0 b1 fun r2752=>Q (r2731.1,r2752,r2731.2):=fun he=>by
      rw [←hcc] at he hrm hc
      refine pS h hrm he (tH hc hrm ?_)
      rw [he]
      exact hQ
    show AQ (decide ((i:Int)<(w:Int))) _ _
    refine AC (fun hi=>?_) (fun hi=>?_)
    · obtain ⟨j3,rfl⟩:∃ j3,j2=j3+1:=⟨j2 - 1,by omega⟩
      refine tH hc hrm ?_
      cases he:mm.ended c with
      | true=>exact AN rfl (fin he)
      | false=>
        refine BF rfl ?_
        refine mT hc hrk hrm hgm fun e0 e1 e2 hre _=>?_
        have ew:AH ((i:Int)+1)=((i+1:Nat):Int):=by rw [AX (by omega) (by omega)]; simp
        rw [ew]
        refine hnext2 j3 _ (by omega) ⟨i+1,_,e0,e1,e2,rfl,by omega,hre,hlm.window hc hgm,hgm.window hc,?_⟩
        rw [←hrun]
        show _=if mm.ended c=true then mm else pN c j3 (mm.window c).2
        rw [he]
        rfl
    · have:j2=0:=by omega
      subst this
      refine fin ?_
      have:mm=pN c w (pT c l (XQ (d.wS S))):=hrun
      rw [this]; exact hend
variable {d:Data} {c:WL} {m:MS} {N:Nat} {o0:AB} {o1:List (Nat×AA)} {o2:List (Nat×AF)}
theorem zA {x:Int} (h:inR .u8 x):∃ n:Nat,1≤n∧n≤4∧AH (((AH x).tmod 4)+1)=(n:Int):=by
  have hb:=bounds_u8 h
  rw [AX (x:=x) (by omega) (by omega),Int.tmod_eq_emod_of_nonneg (by omega),AX (by omega) (by omega)]
  exact ⟨(x % 4+1).toNat,by omega,by omega,by omega⟩
def wM (R C:Nat):Nat:=(R+C)*(R+C)+2
theorem AdK (h:DOk0 d) {Q:Int→Prop} (hQ:Q ((wM d.R d.C:Nat):Int)):PL d.p Q:=by
  have hR:=h.R
  have hC:=h.C
  unfold PL
  refine tN h (AN rfl ?_)
  show Q (AH ((AH ((AH ((d.R:Int)+(d.C:Int)))*(AH ((d.R:Int)+(d.C:Int)))))+2))
  have e1:AH ((d.R:Int)+(d.C:Int))=((d.R+d.C:Nat):Int):=by rw [AX (by omega) (by omega)]; simp
  have hle:(d.R+d.C)*(d.R+d.C)≤16*16:=Nat.mul_le_mul (by omega) (by omega)
  have e2:((d.R+d.C:Nat):Int)*((d.R+d.C:Nat):Int)=(((d.R+d.C)*(d.R+d.C):Nat):Int):=by simp
  rw [e1,e2,AX (x:=(((d.R+d.C)*(d.R+d.C):Nat):Int)) (by omega) (by omega),AX (by omega) (by omega)]
  unfold wM at hQ
  rw [Int.natCast_add] at hQ
  exact hQ
theorem AfH (h:DOk0 d):wM d.R d.C≤258:=by
  have hle:(d.R+d.C)*(d.R+d.C)≤16*16:=Nat.mul_le_mul (by have:=h.R; have:=h.C; omega) (by have:=h.R; have:=h.C; omega)
  unfold wM; omega
theorem nB (w:Nat):∀ t,(WY d w t).length≤t*(d.R+d.C)
  | 0=>by simp [WY]
  | t+1=>by
    rw [eI,List.length_append]
    have:=nB w t
    have h2:(UO d w t++TE d w t).length≤d.R+d.C:=by
      rw [List.length_append]; unfold UO TE; split <;> split <;> simp <;> omega
    rw [Nat.succ_mul]; omega
theorem AdL (h:aK d) {adr:Nat→Nat} (hc:fY (d.ctx adr)):(pN (d.ctx adr) (wM d.R d.C) (XQ d)).ended (d.ctx adr)=true:=by
  refine mV hc _ (mZ h adr) (mY h adr) (fun _ _ _ _=>rfl) fun k hk=>?_
  have h1:=nB (d:=d) k d.S.length
  have h2:d.S.length*(d.R+d.C)≤(d.R+d.C)*(d.R+d.C):=Nat.mul_le_mul_right _ (by have:=h.seg.len; omega)
  show (WY d k d.S.length).length≤_
  unfold wM; omega
theorem wN (h:DOk0 d) {Q:(Rows×Bool×Int)→Prop} (hQ:Q ((VT d.r d.n d.q (eH d)).1,true,(VT d.r d.n d.q (eH d)).2)):RP d.p [] ((wM d.R d.C:Nat):Int) Q:=
  Ah2 h (by simp) (fun x hx=>absurd hx (List.not_mem_nil)) (by have:=AfH h; omega) (fun S ads hd hc=>AdL hd hc) hQ
theorem tP {n:Nat} (g:Nat→Nat→Nat):∀ (L:List (Int×Int)),L.Nodup→(∀ q∈L,∃ f t:Nat,f<n∧t<n∧q=((f:Int),(t:Int))) →
    (L.map fun q=>g q.1.toNat q.2.toNat).sum=LH (fun f=>LH (fun t=>if ((f:Int),(t:Int))∈L then g f t else 0) n) n
  | [],_,_=>by
    have e:LH (fun f:Nat=>LH (fun t:Nat=>if ((f:Int),(t:Int))∈([]:List (Int×Int)) then g f t else 0) n) n=LH (fun _=>0) n:=EG fun i hi=>by
      have:LH (fun t:Nat=>if ((i:Int),(t:Int))∈([]:List (Int×Int)) then g i t else 0) n=LH (fun _=>0) n:=EG fun j hj=>by simp
      rw [this,JG]; simp
    rw [e,JG]; simp
  | q :: L,hn,hk=>by
    rw [List.nodup_cons] at hn
    obtain ⟨f,t,hf,ht,rfl⟩:=hk q List.mem_cons_self
    have ih:=tP g L hn.2 fun q hq=>hk q (List.mem_cons_of_mem _ hq)
    have h1:=YO (g:=fun j:Nat=>if ((f:Int),(j:Int))∈L then g f j else 0) (g':=fun j:Nat=>if ((f:Int),(j:Int))∈((f:Int),(t:Int)) :: L then g f j else 0) ht (fun i hi=>by
      have:¬((f:Int),(i:Int))=((f:Int),(t:Int)):=by simp; omega
      simp only [List.mem_cons,this,false_or])
    have h2:=YO (g:=fun i:Nat=>LH (fun j:Nat=>if ((i:Int),(j:Int))∈L then g i j else 0) n) (g':=fun i:Nat=>LH (fun j:Nat=>if ((i:Int),(j:Int))∈((f:Int),(t:Int)) :: L then g i j else 0) n) hf (fun i hi=>EG fun j hj=>by
      have:¬((i:Int),(j:Int))=((f:Int),(t:Int)):=by simp; omega
      simp only [List.mem_cons,this,false_or])
    rw [if_neg hn.1] at h1
    rw [if_pos List.mem_cons_self] at h1
    rw [List.map_cons,List.sum_cons,ih]
    simp only [Int.toNat_natCast]
    omega
variable {d:Data}
theorem zB (g g':Nat→Nat):∀ n,LH (fun i=>g i+g' i) n=LH g n+LH g' n
  | 0=>rfl
  | n+1=>by unfold LH; rw [zB g g' n]; omega
def AaV (E:List AM) (a b:Int):Nat:=E.countP fun e=>decide (e.From=a∧e.To=b)
theorem AaW (e:AM) (E:List AM) (a b:Int):AaV (e :: E) a b=AaV E a b+if e.From=a∧e.To=b then 1 else 0:=by
  unfold AaV
  rw [List.countP_cons]
  simp
def FM (es:List AM):List AM:=(NJ (SC 1 (es.map oJ)) mkE).1
theorem AfI (a:AP):FP (KV a).1:=by
  unfold KV FP
  split
  · rw [IY]; omega
  · simp
theorem AaX (es:List AM):∀ e∈FM es,FP e.W:=by
  intro e he
  unfold FM NJ at he
  split at he
  · obtain ⟨p,_,rfl⟩:=List.mem_map.1 he
    exact AfI _
  · cases he
theorem VU {es:List AM} (h:∀ e∈es,FP e.W):(FM es).length≤es.length:=by
  have:=(WC 1 (es.map oJ) (fun t ht=>by obtain ⟨e,he,rfl⟩:=List.mem_map.1 ht; exact h e he)).1
  unfold FM NJ
  split
  · simpa using this
  · simp
theorem NO {g:AL} {Q:AL→Prop} (hl:g.Edges.length≤1000000) (hv:∀ e∈g.Edges,FP e.W) (hQ:Q ⟨g.N,FM g.Edges⟩):IE g Q:=by
  unfold IE; exact iW (by omega) hl hv hQ
theorem nC {α:Type} {p:α→Bool} {xs:List α} {i:Nat} (h:i<xs.length):(xs.take (i+1)).filter p=(xs.take i).filter p++(if p xs[i] then [xs[i]] else []):=by
  rw [List.take_succ_eq_append_getElem h,List.filter_append]
  congr 1
  simp [List.filter_cons]
def wO (e:AM):AM:=⟨e.From,e.To,1⟩
def ZY (g:AL):AL:=⟨g.N,FM (g.Edges.map wO)⟩
def ZF (g:AL):AL:=⟨g.N,FM (g.Edges.map ZC)⟩
def XR (g:AL):AL:=⟨g.N,FM (g.Edges++(ZF g).Edges)⟩
theorem tQ {α:Type} {p:α→Bool} {xs:List α} {i:Nat} (h:i≤xs.length):((xs.take i).filter p).length≤i:=by
  have:=List.length_filter_le p (xs.take i)
  rw [List.length_take] at this; omega
theorem AdM {g:AL} {Q:AL→Prop} (hl:g.Edges.length≤1000000) (hQ:Q (ZY g)):UF g Q:=by
  unfold UF SN NE
  refine AW (fun (s:List AM) i=>(s,i)) 0 g.Edges.length (by omega) (fun i s=>s=(g.Edges.take i).map wO) (by omega) rfl (fun i s next _ hi hm hn=>?_) (fun s next hm=>?_)
  · subst hm
    refine AC (fun _=>AV hi (BF rfl (BG (by simp; omega) (hn _ ?_)))) (fun h=>by omega)
    rw [HT hi]; rfl
  · subst hm
    refine AC (fun h=>by omega) (fun _=>?_)
    rw [List.take_length]
    exact NO (by simpa using hl) (fun e he=>by obtain ⟨x,_,rfl⟩:=List.mem_map.1 he; unfold FP wO; simp) hQ
theorem AdN {g:AL} {Q:AL→Prop} (hl:g.Edges.length≤1000000) (hv:∀ e∈g.Edges,FP e.W) (hQ:Q (ZF g)):OG g Q:=by
  unfold OG NG KM
  refine AW (fun (s:List AM) i=>(s,i)) 0 g.Edges.length (by omega) (fun i s=>s=(g.Edges.take i).map ZC) (by omega) rfl (fun i s next _ hi hm hn=>?_) (fun s next hm=>?_)
  · subst hm
    refine AC (fun _=>AV hi (BF rfl (BG (by simp; omega) (hn _ ?_)))) (fun h=>by omega)
    rw [HT hi]; rfl
  · subst hm
    refine AC (fun h=>by omega) (fun _=>?_)
    rw [List.take_length]
    exact NO (by simpa using hl) (fun e he=>by obtain ⟨x,hx,rfl⟩:=List.mem_map.1 he; exact hv x hx) hQ
theorem wP {g:AL} (hl:g.Edges.length≤500000) (hv:∀ e∈g.Edges,FP e.W):(ZF g).Edges.length≤g.Edges.length∧∀ e∈(ZF g).Edges,FP e.W:=by
  refine ⟨?_,AaX _⟩
  have:=VU (es:=g.Edges.map ZC) (fun e he=>by obtain ⟨x,hx,rfl⟩:=List.mem_map.1 he; exact hv x hx)
  simpa [ZF] using this
theorem AaY {xs ys:List AM} {Q:List AM→Prop} (hl:xs.length+ys.length≤1000000) (hQ:Q (xs++ys)):DK [xs,ys] Q:=by
  unfold DK FA
  refine AW (fun (s:Int) i=>(s,i)) 0 2 (by omega) (fun i s=>s=(((([xs,ys]:List (List AM)).take i).map List.length).sum:Nat)) (by omega) (by simp) (fun i s next _ hi hm hn=>?_) (fun s next hm=>?_)
  · subst hm
    refine AC (fun _=>?_) (fun h=>by simp at h; omega)
    match i,hi,hn with
    | 0,_,hn=>
      refine AO (x:=xs) (by omega) rfl ?_
      have e:AH (((([xs,ys]:List (List AM)).take 0).map List.length).sum+(xs.length:Int))=xs.length:=by simp; exact AX (by omega) (by omega)
      rw [e]
      exact AC (fun h=>by omega) (fun _=>hn _ (by simp))
    | 1,_,hn=>
      refine AO (x:=ys) (by omega) rfl ?_
      have e:AH (((([xs,ys]:List (List AM)).take 1).map List.length).sum+(ys.length:Int))=xs.length+ys.length:=by simp; exact AX (by omega) (by omega)
      rw [e]
      exact AC (fun h=>by omega) (fun _=>hn _ (by simp))
  · subst hm
    refine AC (fun h=>by simp at h) (fun _=>?_)
    have e:((((([xs,ys]:List (List AM)).take 2).map List.length).sum:Nat):Int)=xs.length+ys.length:=by simp
    rw [e,AX (x:=0 - 0) (by omega) (by omega),AX (x:=(xs.length:Int)+ys.length - (0 - 0)) (by omega) (by omega)]
    have hk:BD (fun (s:(List AM)×Int) (next273:((List AM)×Int)→Prop)=>match s with | (s268,s272)=>AQ (decide (s272<((([xs,ys]:List (List AM)).length:Nat):Int))) (BA [xs,ys] s272 fun x281=>HN 24 s268 x281 fun _=>next273 ((s268++x281),AH (s272+1))) (Q s268)) ([],0):=by
      refine AW (fun (s:List AM) i=>(s,i)) 0 2 (by omega) (fun i s=>s=(([xs,ys]:List (List AM)).take i).flatten) (by omega) (by simp) (fun i s next _ hi hm hn=>?_) (fun s next hm=>?_)
      · subst hm
        refine AC (fun _=>?_) (fun h=>by simp at h; omega)
        match i,hi,hn with
        | 0,_,hn=>exact AO (x:=xs) (by omega) rfl (BG (by simp; omega) (hn _ (by simp)))
        | 1,_,hn=>exact AO (x:=ys) (by omega) rfl (BG (by simp; omega) (hn _ (by simp)))
      · subst hm
        refine AC (fun h=>by simp at h) (fun _=>?_)
        simpa using hQ
    exact AC (fun h=>by omega) (fun _=>AC (fun h=>⟨by omega,by omega,hk⟩) (fun h=>hk))
theorem AfJ {g:AL} {Q:AL→Prop} (hl:g.Edges.length≤100000) (hv:∀ e∈g.Edges,FP e.W) (hQ:Q (XR g)):W6 g Q:=by
  unfold W6
  have ht:=wP (by omega) hv
  refine AdN (by omega) hv (AaY (by omega) (NO (by simp; omega) (fun e he=>?_) hQ))
  rcases List.mem_append.1 he with h | h
  · exact hv e h
  · exact ht.2 e h
theorem Ah3 (x:Int) {m:Nat} (hm:m<9223372036854775808):0≤fU .i64 x m∧fU .i64 x m≤m:=by
  have h:(BitVec.ofInt 64 x &&& BitVec.ofInt 64 (m:Int)).toNat≤m:=by
    rw [BitVec.toNat_and,BitVec.toNat_ofInt (n:=64) (i:=(m:Int))]
    have hp:((2 ^ 64:Nat):Int)=18446744073709551616:=by decide
    rw [hp,show ((m:Int) % 18446744073709551616).toNat=m by omega]
    exact Nat.and_le_right
  unfold fU
  rw [show IntKind.i64.bits=64 from rfl]
  generalize (BitVec.ofInt 64 x &&& BitVec.ofInt 64 (m:Int)).toNat=k at h
  have e:IntKind.i64.wrap (k:Int)=k:=AX (by omega) (by omega)
  rw [e]; omega
theorem YR {k n:Int} {Q:Int→Prop} (h0:n<1→Q 0) (h1:1≤n→∀ r,0≤r→r<n→Q r):IL k n Q:=by
  unfold IL
  refine AC (fun h=>h0 h) (fun h=>AC (fun h2=>h1 (by omega) 0 (by omega) (by omega)) (fun h2=>⟨by omega,?_⟩))
  rw [Int.tmod_eq_emod_of_nonneg (by omega)]
  exact h1 (by omega) _ (Int.emod_nonneg _ (by omega)) (Int.emod_lt_of_pos _ (by omega))
theorem cO {z:Int} (h:FP z):KV (NU z)=(z,true):=by
  unfold KV NU
  unfold FP at h
  simp only [IY]
  rw [if_pos (by omega)]
  rw [Prod.mk.injEq]
  exact ⟨by omega,rfl⟩
theorem tR {k:EX} {v:AP}:∀ {l:List (EX×AP)} {p:EX×AP},p∈ins 1 k v l→p=(k,v)∨p∈l
  | [],p,h=>by simp [ins] at h; exact .inl h
  | q :: l,p,h=>by
    unfold ins at h
    split at h
    · rcases List.mem_cons.1 h with rfl | h
      · exact .inr (by simp)
      · rcases tR h with h | h
        · exact .inl h
        · exact .inr (by simp [h])
    · split at h
      · rename_i hk
        rcases List.mem_cons.1 h with rfl | h
        · unfold GF
          rw [if_pos (.inl rfl)]
          split
          · right
            obtain ⟨q1,q2⟩:=q
            simp only at hk
            subst hk; simp
          · exact .inl rfl
        · exact .inr (by simp [h])
      · rcases List.mem_cons.1 h with rfl | h
        · exact .inl rfl
        · exact .inr h
theorem AfK:∀ {ts:List (EX×Int)} {p:EX×AP},p∈SC 1 ts→∃ t∈ts,p=(t.1,PX t.2):=by
  suffices ∀ (ts:List (EX×Int)) (l:List (EX×AP)) p,p∈ts.foldl (fun l t=>ins 1 t.1 (PX t.2) l) l→(∃ t∈ts,p=(t.1,PX t.2))∨p∈l from fun {ts p} h=>by
    rcases this ts [] p h with h | h
    · exact h
    · simp at h
  intro ts
  induction ts with
  | nil=>intro l p h; exact .inr h
  | cons t ts ih=>
    intro l p h
    rcases ih _ _ h with ⟨x,hx,e⟩ | hq
    · exact .inl ⟨x,by simp [hx],e⟩
    · rcases tR hq with e2 | h2
      · exact .inl ⟨t,by simp,e2⟩
      · exact .inr h2
theorem RS {es:List AM} (hv:∀ e∈es,FP e.W) {e:AM} (he:e∈FM es):e∈es:=by
  unfold FM NJ at he
  split at he
  · obtain ⟨p,hp,rfl⟩:=List.mem_map.1 he
    obtain ⟨t,ht,rfl⟩:=AfK hp
    obtain ⟨x,hx,rfl⟩:=List.mem_map.1 ht
    simp only [oJ]
    rw [oR (hv x hx)]
    exact hx
  · cases he
def HV (n:Int) (es:List AM):Prop:=∀ e∈es,uT n e∧vV e
theorem ET {n:Int} {es:List AM} (h:HV n es):∀ e∈es,FP e.W:=fun e he=>by have:=(h e he).2; unfold vV at this; unfold FP; omega
theorem PW {n:Int} {es:List AM} (h:HV n es):HV n (FM es):=fun e he=>h e (RS (ET h) he)
theorem RT {n:Int} {es:List AM} (h:HV n es):HV n (es.map wO):=fun e he=>by
  obtain ⟨x,hx,rfl⟩:=List.mem_map.1 he
  exact ⟨(h x hx).1,by unfold vV wO; simp⟩
theorem TF {n:Int} {es:List AM} (h:HV n es):HV n (es.map ZC):=fun e he=>by
  obtain ⟨x,hx,rfl⟩:=List.mem_map.1 he
  have:=h x hx
  exact ⟨⟨this.1.2,this.1.1⟩,this.2⟩
theorem nD {n:Int} {xs ys:List AM} (h:HV n xs) (h':HV n ys):HV n (xs++ys):=fun e he=>by
  rcases List.mem_append.1 he with h1 | h1
  · exact h e h1
  · exact h' e h1
theorem TG {g:AL} (h:IZ g=0):HV g.N g.Edges:=fun e he=>⟨(ML h).2.2.2.1 e he,(ML h).2.2.2.2 e he⟩
theorem jV {g:AL} (h0:0≤g.N∧g.N≤4096) (hl:g.Edges.length≤65536) (h:HV g.N g.Edges):IZ g=0:=by
  unfold IZ
  rw [if_neg (by omega),if_neg (by omega),if_neg (fun h'=>h' fun e he=>(h e he).1),if_neg (fun h'=>h' fun e he=>(h e he).2)]
def noL (es:List AM):Prop:=∀ e∈es,e.From≠e.To
theorem jW {g:AL} (h:HV g.N g.Edges):HV (ZY g).N (ZY g).Edges∧(ZY g).Edges.length≤g.Edges.length∧(noL g.Edges→noL (ZY g).Edges):=by
  refine ⟨PW (RT h),?_,fun hn e he=>?_⟩
  · have:=VU (ET (RT h)); rwa [List.length_map] at this
  · have:=RS (ET (RT h)) he
    obtain ⟨x,hx,rfl⟩:=List.mem_map.1 this
    exact hn x hx
theorem nE {g:AL} (h:HV g.N g.Edges):HV (XR g).N (XR g).Edges∧(XR g).Edges.length≤2*g.Edges.length∧(noL g.Edges→noL (XR g).Edges):=by
  have ht:HV g.N (ZF g).Edges:=PW (TF h)
  have ha:=nD h ht
  refine ⟨PW ha,?_,fun hn e he=>?_⟩
  · have h1:=VU (ET ha)
    have h2:=VU (ET (TF h))
    rw [List.length_append] at h1
    rw [List.length_map] at h2
    have:(ZF g).Edges.length≤g.Edges.length:=h2
    show (FM _).length≤_
    omega
  · rcases List.mem_append.1 (RS (ET ha) he) with h1 | h1
    · exact hn e h1
    · obtain ⟨x,hx,rfl⟩:=List.mem_map.1 (RS (ET (TF h)) h1)
      exact fun e=>hn x hx e.symm
theorem AdO {a:AL} {Q:AL→Prop} (hQ:∀ g:AL,0≤g.N∧g.N≤23→g.Edges.length≤60→IZ g=0→Q g):UD a Q:=by
  unfold UD
  refine YR (fun h=>by omega) (fun _ n h0 h1=>?_)
  have hend:∀ es:List AM,es.length≤60→HV n es→Q ⟨n,es⟩:=fun es he hg=>hQ _ ⟨h0,by simp only; omega⟩ he (jV (by simp only; omega) (by simp only; omega) hg)
  refine AW (fun (s:List AM) i=>(s,i)) 0 (min a.Edges.length 60) (by omega) (fun i s=>s.length≤i∧HV n s) (by omega) (s0:=[]) ⟨by simp,by intro e he; simp at he⟩ (fun i s next _ hi hm hn=>?_) (fun s next hm=>?_)
  · dsimp only
    refine AC (fun _=>AC (fun _=>AC (fun hn0=>AV (by omega) ?_) (fun _=>hend s (by omega) hm.2)) (fun h=>by omega)) (fun h=>by omega)
    refine YR (fun h=>by omega) fun _ u u0 u1=>YR (fun h=>by omega) fun _ v v0 v1=>BG (by simp; omega) (hn _ ⟨by simp; omega,fun e he=>?_⟩)
    rcases List.mem_append.1 he with h | h
    · exact hm.2 e h
    · rw [List.mem_singleton.1 h]
      have:=Ah3 (a.Edges[i]'(by omega)).W (m:=2147483647) (by omega)
      refine ⟨⟨⟨u0,u1⟩,v0,v1⟩,?_⟩
      unfold vV
      simp only; omega
  · dsimp only
    exact AC (fun _=>AC (fun _=>by omega) (fun _=>hend s (by omega) hm.2)) (fun _=>hend s (by omega) hm.2)
def ltE (a b:AM):Prop:=TS (a.From,a.To) (b.From,b.To)
theorem AaZ {es:List AM} (h:∀ e∈es,FP e.W):(FM es).Pairwise ltE:=by
  unfold FM
  rw [bU (fun t ht=>by obtain ⟨e,he,rfl⟩:=List.mem_map.1 ht; exact h e he)]
  simp only
  rw [List.pairwise_map]
  exact (UX 1 (es.map oJ)).imp fun {a b} hab=>hab
theorem wQ {es:List AM} (h:∀ e∈es,FP e.W) (hs:es.Pairwise ltE):FM es=es:=by
  have e1:es.map oJ=(es.map e2t).map rP:=by rw [List.map_map]; rfl
  have hs':Srt (es.map e2t):=by
    unfold Srt
    rw [List.pairwise_map]
    exact hs.imp fun {a b} hab=>hab
  unfold FM
  rw [bU (fun t ht=>by obtain ⟨e,he,rfl⟩:=List.mem_map.1 ht; exact h e he)]
  simp only
  rw [e1,yJ hs',List.map_map,List.map_map]
  conv=>rhs; rw [←List.map_id es]
  refine List.map_congr_left fun e he=>?_
  simp only [Function.comp_apply,e2t,key,id_eq]
  rw [oR (h e he)]
  rfl
theorem Ab0 {g:AL} (h:∀ e∈g.Edges,FP e.W) {t:AD}:t∈DF g↔(⟨t.Col,t.Row,t.Val⟩:AM)∈FM g.Edges:=by
  have hv1:∀ t∈g.Edges.map oJ,FP t.2:=fun t ht=>by obtain ⟨e,he,rfl⟩:=List.mem_map.1 ht; exact h e he
  have hv2:∀ t∈g.Edges.map kvF,FP t.2:=fun t ht=>by obtain ⟨e,he,rfl⟩:=List.mem_map.1 ht; exact h e he
  unfold DF FM
  rw [bU hv1,bU hv2]
  simp only
  rw [List.mem_map,List.mem_map]
  constructor
  · rintro ⟨p,hp,rfl⟩
    obtain ⟨q,hq,rfl⟩:=List.mem_map.1 ((yI g.Edges).mem_iff.2 hp)
    exact ⟨q,hq,rfl⟩
  · rintro ⟨q,hq,he⟩
    refine ⟨sw q,(yI g.Edges).mem_iff.1 (List.mem_map_of_mem hq),?_⟩
    obtain ⟨tr,tc,tv⟩:=t
    unfold mkE at he
    simp only [AM.mk.injEq] at he
    obtain ⟨h1,h2,h3⟩:=he
    unfold rQ sw
    simp only [AD.mk.injEq]
    exact ⟨h2,h1,h3⟩
def TH:Nat→(Nat→Int)→Int
  | 0,_=>0
  | n+1,f=>TH n f+f n
def gO (o:Option Int):Int:=(AiQ o).1
theorem jX {f g:Nat→Int}:∀ {n:Nat},(∀ j,j<n→f j=g j)→TH n f=TH n g
  | 0,_=>rfl
  | n+1,h=>by show TH n f+f n=TH n g+g n; rw [jX fun j hj=>h j (by omega),h n (by omega)]
theorem jY {f:Nat→Int} {b:Int}:∀ {n:Nat},(∀ j,j<n→0≤f j∧f j≤b)→0≤TH n f∧TH n f≤n*b
  | 0,_=>by simp [TH]
  | n+1,h=>by
    have h1:=jY (n:=n) fun j hj=>h j (by omega)
    have h2:=h n (by omega)
    show 0≤TH n f+f n∧TH n f+f n≤((n+1:Nat):Int)*b
    have e:((n+1:Nat):Int)*b=n*b+b:=by rw [Int.natCast_succ,Int.add_mul,Int.one_mul]
    omega
theorem Ai8 (A B:Int→Option Int):∀ n:Nat,(XL 5 n A B=none∧TH n (fun j=>gO (A j)*gO (B j))=0)∨XL 5 n A B=some (NU (TH n fun j=>gO (A j)*gO (B j)))
  | 0=>.inl ⟨rfl,rfl⟩
  | n+1=>by
    have ih:=Ai8 A B n
    rw [dS]
    unfold fJ
    show (_∧TH n (fun j=>gO (A j)*gO (B j))+gO (A n)*gO (B n)=0)∨_=some (NU (TH n (fun j=>gO (A j)*gO (B j))+gO (A n)*gO (B n)))
    generalize TH n (fun j=>gO (A j)*gO (B j))=s at ih ⊢
    cases A n with
    | none=>
      have e:gO none*gO (B n)=0:=by show (0:Int)*_=0; omega
      rw [e,Int.add_zero]; exact ih
    | some a=>
      cases B n with
      | none=>
        have e:gO (some a)*gO none=0:=by show _*(0:Int)=0; omega
        rw [e,Int.add_zero]; exact ih
      | some x=>
        have em:jC 5 a x=NU (a*x):=rfl
        have e:gO (some a)*gO (some x)=a*x:=rfl
        rw [e]
        dsimp only
        rw [em]
        rcases ih with ⟨h1,h2⟩ | h1
        · rw [h1,h2,Int.zero_add]; exact .inr rfl
        · rw [h1]
          refine .inr ?_
          show some (GF 5 (NU s) (NU (a*x)))=_
          rw [QY]
def aT (T:List AD) (u j:Nat):Int:=gO (WU (bY T u) j)
theorem AdP {rows cols:Int} {T:List AD} (h:Canon rows cols T) {b:Int} (hb0:0≤b) (hb:∀ t∈T,0≤t.Val∧t.Val≤b) (u j:Nat):0≤aT T u j∧aT T u j≤b:=by
  unfold aT
  cases e:WU (bY T u) j with
  | none=>show (0:Int)≤0∧(0:Int)≤b; omega
  | some x=>exact hb _ ((TB h (by omega)).1 e)
theorem Ah4 {a x b c:Int} (h1:0≤a∧a≤b) (h2:0≤x∧x≤c):0≤a*x∧a*x≤b*c:=
  ⟨Int.mul_nonneg h1.1 h2.1,Int.mul_le_mul h1.2 h2.2 h2.1 (by omega)⟩
structure Light (n:Nat) (T:List AD):Prop where
  can:Canon n n T
  small:n≤30
  val:∀ t∈T,0≤t.Val∧t.Val≤7
theorem Light.a {n:Nat} {T:List AD} (h:Light n T) (u j:Nat):0≤aT T u j∧aT T u j≤7:=AdP h.can (by omega) h.val u j
theorem Light.s {n:Nat} {T:List AD} (h:Light n T) {f:Nat→Int} (hf:∀ j,0≤f j∧f j≤7) (u:Nat):0≤TH n (fun j=>aT T u j*f j)∧TH n (fun j=>aT T u j*f j)≤1470:=by
  have h1:=jY (f:=fun j=>aT T u j*f j) (b:=49) (n:=n) fun j _=>Ah4 (c:=7) (h.a u j) (hf j)
  have:=h.small
  omega
theorem Light.int {n:Nat} {T:List AD} (h:Light n T) {t:AD} (ht:t∈T):FP t.Val:=by have:=h.val t ht; unfold FP; omega
theorem tS {T:List AD} {n:Nat} (h:Light n T) (i c:Nat) :
    (MM 5 T T i c=none∧TH n (fun j=>aT T i j*aT T j c)=0)∨MM 5 T T i c=some (NU (TH n fun j=>aT T i j*aT T j c)):=by
  rw [TC h.can (by omega)]
  exact Ai8 (WU (bY T i)) (wC T c) n
theorem wR {r:Int} {c:AK} {t:AD} (h:pA r c=some t):t.Row=c.Row∧t.Col=c.Col:=by
  unfold pA at h
  split at h
  · cases h; exact ⟨rfl,rfl⟩
  · cases h
theorem AdQ {a b:Int}:∀ {E:List AM},E.Pairwise ltE→AaV E a b=if ∃ e∈E,e.From=a∧e.To=b then 1 else 0
  | [],_=>by simp [AaV]
  | e :: E,h=>by
    have ih:=AdQ (a:=a) (b:=b) (List.Pairwise.of_cons h)
    rw [AaW,ih]
    by_cases he:e.From=a∧e.To=b
    · have hno:¬ ∃ x∈E,x.From=a∧x.To=b:=by
        rintro ⟨x,hx,h1,h2⟩
        have:=List.rel_of_pairwise_cons h hx
        unfold ltE at this
        rw [he.1,he.2,h1,h2] at this
        exact GG _ this
      rw [if_neg hno,if_pos he,if_pos ⟨e,List.mem_cons_self,he⟩]
    · rw [if_neg he]
      by_cases hx:∃ x∈E,x.From=a∧x.To=b
      · obtain ⟨x,hx,h1⟩:=hx
        rw [if_pos ⟨x,hx,h1⟩,if_pos ⟨x,List.mem_cons_of_mem _ hx,h1⟩]
      · rw [if_neg hx,if_neg]
        rintro ⟨x,hx',h1⟩
        rcases List.mem_cons.1 hx' with rfl | hx'
        · exact he h1
        · exact hx ⟨x,hx',h1⟩
structure PlainP (n:Nat) (g:AL):Prop where
  N:g.N=n
  good:HV g.N g.Edges
  srt:g.Edges.Pairwise ltE
  one:∀ e∈g.Edges,e.W=1
theorem AfL {g:AL} {n:Nat} (hN:g.N=n) (h:HV g.N g.Edges):PlainP n (ZY g):=by
  refine ⟨hN,(jW h).1,AaZ (ET (RT h)),fun e he=>?_⟩
  have:=RS (ET (RT h)) he
  obtain ⟨x,_,rfl⟩:=List.mem_map.1 this
  rfl
variable {n:Nat} {g:AL}
theorem PlainP.mem (h:PlainP n g) {t:AD}:t∈DF g↔(⟨t.Col,t.Row,t.Val⟩:AM)∈g.Edges:=by
  rw [Ab0 (ET h.good),wQ (ET h.good) h.srt]
theorem PlainP.right (h:PlainP n g) (hn:n≤4096) (hl:g.Edges.length≤65536):IZ g=0:=jV (by rw [h.N]; omega) hl h.good
theorem PlainP.light (h:PlainP n g) (hn:n≤30) (hl:g.Edges.length≤65536):Light n (DF g):=by
  have hc:=fI (h.right (by omega) hl)
  rw [h.N] at hc
  exact ⟨hc,hn,fun t ht=>by have:=h.one _ (h.mem.1 ht); simp only at this; omega⟩
theorem PlainP.val (h:PlainP n g) (hc:Canon n n (DF g)) (u j:Nat):aT (DF g) u j=(AaV g.Edges (j:Int) (u:Int):Int):=by
  rw [AdQ h.srt]
  unfold aT
  cases e:WU (bY (DF g) u) j with
  | some x=>
    have hm:=h.mem.1 ((TB hc (by omega)).1 e)
    rw [if_pos ⟨_,hm,rfl,rfl⟩]
    have:=h.one _ hm
    simp only at this
    show x=_
    rw [this]; rfl
  | none=>
    rw [if_neg]
    · rfl
    · rintro ⟨x,hx,h1,h2⟩
      have:(⟨(u:Int),(j:Int),x.W⟩:AD)∈DF g:=h.mem.2 (by simp only; rw [←h1,←h2]; exact hx)
      rw [(TB hc (by omega)).2 this] at e
      cases e
theorem tT (f:Nat→Nat):∀ m:Nat,TH m (fun j=>(f j:Int))=(LH f m:Int)
  | 0=>rfl
  | m+1=>by show TH m (fun j=>(f j:Int))+(f m:Int)=_; rw [tT f m]; show _=((LH f m+f m:Nat):Int); omega
end Go.Proofs.YtbohadngdkjljaaGreat
