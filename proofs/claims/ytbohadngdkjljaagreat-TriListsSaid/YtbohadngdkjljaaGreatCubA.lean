import Derived.Test.YtbohadngdkjljaaGreatSumM
namespace Go.Proofs.YtbohadngdkjljaaGreat
open Go Go.Fw
set_option linter.unusedVariables false
set_option linter.unusedSimpArgs false
variable {d:Data} {c:XC} {m:MS} {N:Nat}
def sL (c:XC) (l:List NP) (m:MS):MS:=l.foldl (fun m x=>(m.act c x).2) m
theorem AcK (c:XC) (l:List NP) (x:NP) (m:MS):sL c (l++[x]) m=((sL c l m).act c x).2:=by simp [sL]
theorem pU (D:iS c):∀ (l:List NP) {m:MS},Live c N m→Good c m→Live c N (sL c l m)∧Good c (sL c l m)
  | [],_,h,g=>⟨h,g⟩
  | x :: l,m,h,g=>pU D l (h.acted D g x) (g.acted D x)
abbrev AhL (o0:AC) (k:Int) (o1:List (Nat×AA)) (o2:List (Nat×AF)):Int×Int×Int×(List Int)×(List Int)×(List Int)×Int×Int×(List Int)×(List Int)×(List Int)×Int×Int×(List Int)×(List Int)×(List Int)×Int×Int×Int×(List BJ)×(List (Option Nat))×(List ((Int×Int)×(Option Nat)))×Int×(List (Nat×AA))×(List (Nat×AF)):=
  (o0.p.Ring,o0.p.A.Rows,o0.p.A.Cols,o0.p.A.Start,o0.p.A.Col,o0.p.A.Val,o0.p.B.Rows,o0.p.B.Cols,o0.p.B.Start,o0.p.B.Col,o0.p.B.Val,o0.p.Mask.Rows,o0.p.Mask.Cols,o0.p.Mask.Start,o0.p.Mask.Col,o0.p.Mask.Val,o0.p.R,o0.p.C,o0.p.Room,o0.stages,o0.workers,o0.boxes,k,o1,o2)
theorem wL {l:List NP} (hl:l.length≤1048576) (h:∀ x∈l,AeU x=true) {Q:Bool→Prop} (G:Q false):BX l Q:=by
  unfold BX DV
  refine DC l.length (by omega) (fun _=>True) trivial (fun i next hi _ D=>?_) (fun next _=>?_)
  · refine AX (by simp; omega) (AW hi ?_)
    unfold QZ
    refine dY ?_
    rw [h _ (List.getElem_mem hi)]
    exact AO rfl (D trivial)
  · exact AO (by simp) G
theorem AiO (h0:DOk0 d) {l:List NP} {w:Nat} (hl:l.length≤1048576) (hmv:∀ x∈l,AeU x=true) (hw:w≤1048576)
    (hE:∀ (S:List BJ) (D:List Nat),cE (d.wS S)→iS ((d.wS S).ctx fun i=>D.getD i 0)→(sF ((d.wS S).ctx fun i=>D.getD i 0) w (sL ((d.wS S).ctx fun i=>D.getD i 0) l (YR (d.wS S)))).ended ((d.wS S).ctx fun i=>D.getD i 0)=true)
    {Q:(Rows×Bool×Int)→Prop} (hQ:Q ((WM d.r d.n d.q (fV d)).1,true,(WM d.r d.n d.q (fV d)).2)):SR d.p l (w:Int) Q:=by
  unfold SR
  refine AgY h0 fun S D bk hS h U W=>?_
  generalize hcc:((d.wS S).ctx fun i=>D.getD i 0)=c at U W
  have hrk:Rk c:=by rw [←hcc]; exact AjY h _
  have hg:Good c (YR (d.wS S)):=by rw [←hcc]; exact pS h _
  have hli:Live c (eC c (YR (d.wS S))) (YR (d.wS S)):=by rw [←hcc]; exact pT h _
  have V:=hE S D h (by rw [hcc]; exact U)
  rw [hcc] at V
  refine AO rfl (AO (by simp; omega) (wL hl hmv (AO rfl (AO (by simp) (AO (by simp; omega) ?_)))))
  refine GQ (fun j x=>∃ (i:Nat) (a0:AC) (a1:List (Nat×AA)) (a2:List (Nat×AF)),x=AhL a0 (i:Int) a1 a2∧i+j=l.length∧Rep c (sL c (l.take i) (YR (d.wS S))) a0 a1 a2) (m0:=l.length) ⟨0,_,bk,[],rfl,by omega,W⟩ ?_
  rintro j _ next ⟨i,a0,a1,a2,rfl,hij,hr⟩ hnext
  show AR (decide ((i:Int)<(l.length:Int))) _ _
  obtain ⟨hlv,hgd⟩:=pU U (l.take i) hli hg
  refine AB (fun hi=>?_) (fun hi=>?_)
  · have hi':i<l.length:=by omega
    refine AW hi' ?_
    refine AiL U hrk hr hgd (x:=l[i]) fun b0 b1 b2 hb _=>?_
    have ew:AJ ((i:Int)+1)=((i+1:Nat):Int):=by rw [BE (by omega) (by omega)]; simp
    rw [ew]
    exact hnext (j - 1) _ (by omega) ⟨i+1,b0,b1,b2,rfl,by omega,by rw [List.take_succ_eq_append_getElem hi',AcK]; exact hb⟩
  · have hil:i=l.length:=by omega
    subst hil
    rw [List.take_length] at hr hlv hgd
    unfold FM
    refine GQ (fun j x=>∃ (i:Nat) (G:MS) (a0:AC) (a1:List (Nat×AA)) (a2:List (Nat×AF)),x=AhL a0 (i:Int) a1 a2∧i+j=w∧Rep c G a0 a1 a2∧Live c (eC c (YR (d.wS S))) G∧Good c G∧sF c j G=sF c w (sL c l (YR (d.wS S)))) (m0:=w) ⟨0,_,_,a1,a2,rfl,by omega,hr,hlv,hgd,rfl⟩ ?_
    rintro j2 _ next2 ⟨i,G,b0,b1,b2,rfl,hij2,O,hlm,Z,Y⟩ hnext2
    have fin:G.ended c=true→EH b0 b1 fun J=>DL b0 b1 fun r2752=>Q (J.1,r2752,J.2):=fun he=>by
      rw [←hcc] at he O U
      refine sK h O he (wE U O ?_)
      rw [he]
      exact hQ
    show AR (decide ((i:Int)<(w:Int))) _ _
    refine AB (fun hi=>?_) (fun hi=>?_)
    · obtain ⟨j3,rfl⟩:∃ j3,j2=j3+1:=⟨j2 - 1,by omega⟩
      refine wE U O ?_
      cases he:G.ended c with
      | true=>exact AO rfl (fin he)
      | false=>
        refine AX rfl ?_
        refine pN U hrk O Z fun e0 e1 e2 hre _=>?_
        have ew:AJ ((i:Int)+1)=((i+1:Nat):Int):=by rw [BE (by omega) (by omega)]; simp
        rw [ew]
        refine hnext2 j3 _ (by omega) ⟨i+1,_,e0,e1,e2,rfl,by omega,hre,hlm.window U Z,Z.window U,?_⟩
        rw [←Y]
        show _=if G.ended c=true then G else sF c j3 (G.window c).2
        rw [he]
        rfl
    · have:j2=0:=by omega
      subst this
      refine fin ?_
      have:G=sF c w (sL c l (YR (d.wS S))):=Y
      rw [this]; exact V
variable {d:Data} {c:XC} {m:MS} {N:Nat} {o0:AC} {o1:List (Nat×AA)} {o2:List (Nat×AF)}
def zF (R C:Nat):Nat:=(R+C)*(R+C)+2
theorem Af4 (h:DOk0 d) {Q:Int→Prop} (D:Q ((zF d.R d.C:Nat):Int)):QO d.p Q:=by
  have hR:=h.R
  have hC:=h.C
  unfold QO
  refine wK h (AO rfl ?_)
  show Q (AJ ((AJ ((AJ ((d.R:Int)+(d.C:Int)))*(AJ ((d.R:Int)+(d.C:Int)))))+2))
  have J:AJ ((d.R:Int)+(d.C:Int))=((d.R+d.C:Nat):Int):=by rw [BE (by omega) (by omega)]; simp
  have O:(d.R+d.C)*(d.R+d.C)≤16*16:=Nat.mul_le_mul (by omega) (by omega)
  have G:((d.R+d.C:Nat):Int)*((d.R+d.C:Nat):Int)=(((d.R+d.C)*(d.R+d.C):Nat):Int):=by simp
  rw [J,G,BE (x:=(((d.R+d.C)*(d.R+d.C):Nat):Int)) (by omega) (by omega),BE (by omega) (by omega)]
  unfold zF at D
  rw [Int.natCast_add] at D
  exact D
theorem AgZ (h:DOk0 d):zF d.R d.C≤258:=by
  have D:(d.R+d.C)*(d.R+d.C)≤16*16:=Nat.mul_le_mul (by have:=h.R; have:=h.C; omega) (by have:=h.R; have:=h.C; omega)
  unfold zF; omega
theorem pV (w:Nat):∀ t,(XV d w t).length≤t*(d.R+d.C)
  | 0=>by simp [XV]
  | t+1=>by
    rw [fW,List.length_append]
    have:=pV w t
    have h2:(VP d w t++UG d w t).length≤d.R+d.C:=by
      rw [List.length_append]; unfold VP UG; split <;> split <;> simp <;> omega
    rw [Nat.succ_mul]; omega
theorem Af5 (h:cE d) {D:Nat→Nat} (G:iS (d.ctx D)):(sF (d.ctx D) (zF d.R d.C) (YR d)).ended (d.ctx D)=true:=by
  refine pP G _ (pT h D) (pS h D) (fun _ _ _ _=>rfl) fun k hk=>?_
  have h1:=pV (d:=d) k d.S.length
  have h2:d.S.length*(d.R+d.C)≤(d.R+d.C)*(d.R+d.C):=Nat.mul_le_mul_right _ (by have:=h.seg.len; omega)
  show (XV d k d.S.length).length≤_
  unfold zF; omega
theorem zG (h:DOk0 d) {Q:(Rows×Bool×Int)→Prop} (U:Q ((WM d.r d.n d.q (fV d)).1,true,(WM d.r d.n d.q (fV d)).2)):SR d.p [] ((zF d.R d.C:Nat):Int) Q:=
  AiO h (by simp) (fun x O=>absurd O (List.not_mem_nil)) (by have:=AgZ h; omega) (fun S D G J=>Af5 G J) U
theorem wM {n:Nat} (g:Nat→Nat→Nat):∀ (L:List (Int×Int)),L.Nodup→(∀ q∈L,∃ f t:Nat,f<n∧t<n∧q=((f:Int),(t:Int))) →
    (L.map fun q=>g q.1.toNat q.2.toNat).sum=MA (fun f=>MA (fun t=>if ((f:Int),(t:Int))∈L then g f t else 0) n) n
  | [],_,_=>by
    have e:MA (fun f:Nat=>MA (fun t:Nat=>if ((f:Int),(t:Int))∈([]:List (Int×Int)) then g f t else 0) n) n=MA (fun _=>0) n:=ER fun i hi=>by
      have:MA (fun t:Nat=>if ((i:Int),(t:Int))∈([]:List (Int×Int)) then g i t else 0) n=MA (fun _=>0) n:=ER fun j O=>by simp
      rw [this,JO]; simp
    rw [e,JO]; simp
  | q :: L,hn,hk=>by
    rw [List.nodup_cons] at hn
    obtain ⟨f,t,U,D,rfl⟩:=hk q List.mem_cons_self
    have G:=wM g L hn.2 fun q J=>hk q (List.mem_cons_of_mem _ J)
    have h:=ZU (g:=fun j:Nat=>if ((f:Int),(j:Int))∈L then g f j else 0) (g':=fun j:Nat=>if ((f:Int),(j:Int))∈((f:Int),(t:Int)) :: L then g f j else 0) D (fun i hi=>by
      have:¬((f:Int),(i:Int))=((f:Int),(t:Int)):=by simp; omega
      simp only [List.mem_cons,this,false_or])
    have h2:=ZU (g:=fun i:Nat=>MA (fun j:Nat=>if ((i:Int),(j:Int))∈L then g i j else 0) n) (g':=fun i:Nat=>MA (fun j:Nat=>if ((i:Int),(j:Int))∈((f:Int),(t:Int)) :: L then g i j else 0) n) U (fun i hi=>ER fun j O=>by
      have:¬((i:Int),(j:Int))=((f:Int),(t:Int)):=by simp; omega
      simp only [List.mem_cons,this,false_or])
    rw [if_neg hn.1] at h
    rw [if_pos List.mem_cons_self] at h
    rw [List.map_cons,List.sum_cons,G]
    simp only [Int.toNat_natCast]
    omega
variable {d:Data}
theorem AbD (g g':Nat→Nat):∀ n,MA (fun i=>g i+g' i) n=MA g n+MA g' n
  | 0=>rfl
  | n+1=>by unfold MA; rw [AbD g g' n]; omega
def AcL (E:List AL) (a b:Int):Nat:=E.countP fun e=>decide (e.From=a∧e.To=b)
theorem AcM (e:AL) (E:List AL) (a b:Int):AcL (e :: E) a b=AcL E a b+if e.From=a∧e.To=b then 1 else 0:=by
  unfold AcL
  rw [List.countP_cons]
  simp
def EU (es:List AL):List AL:=(MT (SC 1 (es.map cD)) yL).1
theorem le_total {a b:AN} (h:¬SS a b):SS b a:=by unfold SS at *; omega
theorem zH (w a b:AN):EK 1 (EK 1 w a) b=EK 1 (EK 1 w b) a:=by
  unfold EK
  simp only [true_or,if_true]
  have G:∀ {x y z:AN},SS x y→SS y z→SS x z:=fun D h=>by unfold SS at *; omega
  have J:∀ {x y:AN},SS x y→SS y x→x=y:=fun D h=>by
    unfold SS at D h; exact LY (by omega) (by omega)
  by_cases D:SS w a
  · rw [if_pos D]
    by_cases h:SS w b
    · rw [if_pos h,if_pos D]
    · rw [if_neg h,if_pos (G (le_total h) D)]
  · rw [if_neg D]
    by_cases h:SS w b
    · rw [if_pos h,if_neg D,if_pos (G (le_total D) h)]
    · rw [if_neg h]
      by_cases h3:SS a b
      · rw [if_pos h3]
        by_cases h4:SS b a
        · rw [if_pos h4]; exact J h3 h4
        · rw [if_neg h4]
      · rw [if_neg h3,if_pos (le_total h3)]
theorem Af6 {xs ys:List (FI×Int)} (h:xs.Perm ys):SC 1 xs=SC 1 ys:=by
  have hp:(SC 1 xs).Perm (SC 1 ys):=ZC (QS (OD _ _)) (QS (OD _ _)) fun k=>by
    rw [lF,lF]
    unfold AiA
    refine h.foldl_eq' (fun x _ y _ z=>?_) _
    by_cases G:k=x.1
    · by_cases D:k=y.1
      · rw [if_pos G,if_pos D,if_pos D,if_pos G]
        cases z with
        | none => simp only []; rw [show EK 1 (LI x.2) (LI y.2) = EK 1 (LI y.2) (LI x.2) from ?_]
                  unfold EK
                  simp only [true_or,if_true]
                  by_cases h3:SS (LI x.2) (LI y.2)
                  · rw [if_pos h3]
                    by_cases h4:SS (LI y.2) (LI x.2)
                    · rw [if_pos h4]; unfold SS at h3 h4; exact LY (by omega) (by omega)
                    · rw [if_neg h4]
                  · rw [if_neg h3,if_pos (le_total h3)]
        | some w=>simp only []; rw [zH]
      · simp only [if_pos G,if_neg D]
    · by_cases D:k=y.1
      · simp only [if_neg G,if_pos D]
      · simp only [if_neg G,if_neg D]
  exact ZD hp (OD _ _) (OD _ _) fun a b _ _ G D=>absurd (LB G D) (FC _)
theorem zI {xs ys:List AL} (h:xs.Perm ys):EU xs=EU ys:=by unfold EU; rw [Af6 (h.map cD)]
theorem Ah0 (a:AN):FL (JC a).1:=by
  unfold JC FL
  split
  · rw [GW]; omega
  · simp
theorem AcN (es:List AL):∀ e∈EU es,FL e.W:=by
  intro e he
  unfold EU MT at he
  split at he
  · obtain ⟨p,_,rfl⟩:=List.mem_map.1 he
    exact Ah0 _
  · cases he
theorem WO {es:List AL} (h:∀ e∈es,FL e.W):(EU es).length≤es.length:=by
  have:=(RZ 1 (es.map cD) (fun t D=>by obtain ⟨e,he,rfl⟩:=List.mem_map.1 D; exact h e he)).1
  unfold EU MT
  split
  · simpa using this
  · simp
theorem OI {g:AK} {Q:AK→Prop} (G:g.Edges.length≤1000000) (h:∀ e∈g.Edges,FL e.W) (D:Q ⟨g.N,EU g.Edges⟩):IK g Q:=by
  unfold IK; exact kW (by omega) G h D
theorem SG {g:AK} {Q:AK→Prop} (G:g.Edges.length≤1000000) (h:∀ e∈g.Edges,FL e.W) (D:Q ⟨g.N,EU g.Edges⟩):KK g Q:=by
  unfold KK; exact kX (by omega) G h D
theorem fX {α:Type} {p:α→Bool} {xs:List α} {i:Nat} (h:i<xs.length):(xs.take (i+1)).filter p=(xs.take i).filter p++(if p xs[i] then [xs[i]] else []):=by
  rw [List.take_succ_eq_append_getElem h,List.filter_append]
  congr 1
  simp [List.filter_cons]
def sM (e:AL):AL:=⟨e.From,e.To,1⟩
def YS (g:AK):AK:=⟨g.N,EU (g.Edges.map sM)⟩
def XP (g:AK):AK:=⟨g.N,EU (g.Edges.map XN)⟩
def WP (g:AK):AK:=⟨g.N,EU (g.Edges++(XP g).Edges)⟩
theorem lZ {α:Type} {p:α→Bool} {xs:List α} {i:Nat} (h:i≤xs.length):((xs.take i).filter p).length≤i:=by
  have:=List.length_filter_le p (xs.take i)
  rw [List.length_take] at this; omega
theorem Af7 {g:AK} {Q:AK→Prop} (J:g.Edges.length≤1000000) (G:Q (YS g)):VD g Q:=by
  unfold VD TP NV
  refine AV (fun (s:List AL) i=>(s,i)) 0 g.Edges.length (by omega) (fun i s=>s=(g.Edges.take i).map sM) (by omega) rfl (fun i s next _ hi D O=>?_) (fun s next D=>?_)
  · subst D
    refine AB (fun _=>AW hi (AX rfl (BA (by simp; omega) (O _ ?_)))) (fun h=>by omega)
    rw [EQ hi]; rfl
  · subst D
    refine AB (fun h=>by omega) (fun _=>?_)
    rw [List.take_length]
    exact OI (by simpa using J) (fun e he=>by obtain ⟨x,_,rfl⟩:=List.mem_map.1 he; unfold FL sM; simp) G
theorem sN {g:AK} {Q:AK→Prop} (J:g.Edges.length≤1000000) (G:Q (YS g)):V9 g Q:=by
  unfold V9
  refine AV (fun (s:List AL) i=>(s,i)) 0 g.Edges.length (by omega) (fun i s=>s=(g.Edges.take i).map sM) (by omega) rfl (fun i s next _ hi D O=>?_) (fun s next D=>?_)
  · subst D
    refine AB (fun _=>AW hi (AW hi (BA (by simp; omega) (O _ ?_)))) (fun h=>by omega)
    rw [EQ hi]; rfl
  · subst D
    refine AB (fun h=>by omega) (fun _=>?_)
    rw [List.take_length]
    exact SG (by simpa using J) (fun e he=>by obtain ⟨x,_,rfl⟩:=List.mem_map.1 he; unfold FL sM; simp) G
theorem Af8 {g:AK} {Q:AK→Prop} (O:g.Edges.length≤1000000) (J:∀ e∈g.Edges,FL e.W) (G:Q (XP g)):PD g Q:=by
  unfold PD NX KW
  refine AV (fun (s:List AL) i=>(s,i)) 0 g.Edges.length (by omega) (fun i s=>s=(g.Edges.take i).map XN) (by omega) rfl (fun i s next _ hi D V=>?_) (fun s next D=>?_)
  · subst D
    refine AB (fun _=>AW hi (AX rfl (BA (by simp; omega) (V _ ?_)))) (fun h=>by omega)
    rw [EQ hi]; rfl
  · subst D
    refine AB (fun h=>by omega) (fun _=>?_)
    rw [List.take_length]
    exact OI (by simpa using O) (fun e he=>by obtain ⟨x,U,rfl⟩:=List.mem_map.1 he; exact J x U) G
theorem eH {g:AK} {Q:AK→Prop} (O:g.Edges.length≤1000000) (J:∀ e∈g.Edges,FL e.W) (G:Q (XP g)):TF g Q:=by
  unfold TF
  refine AV (fun (s:List AL) i=>(s,i)) 0 g.Edges.length (by omega) (fun i s=>s=(g.Edges.take i).map XN) (by omega) rfl (fun i s next _ hi D V=>?_) (fun s next D=>?_)
  · subst D
    refine AB (fun _=>AW hi (BA (by simp; omega) (V _ ?_))) (fun h=>by omega)
    rw [EQ hi]; rfl
  · subst D
    refine AB (fun h=>by omega) (fun _=>?_)
    rw [List.take_length]
    exact SG (by simpa using O) (fun e he=>by obtain ⟨x,U,rfl⟩:=List.mem_map.1 he; exact J x U) G
theorem mA {g:AK} (hl:g.Edges.length≤500000) (h:∀ e∈g.Edges,FL e.W):(XP g).Edges.length≤g.Edges.length∧∀ e∈(XP g).Edges,FL e.W:=by
  refine ⟨?_,AcN _⟩
  have:=WO (es:=g.Edges.map XN) (fun e he=>by obtain ⟨x,D,rfl⟩:=List.mem_map.1 he; exact h x D)
  simpa [XP] using this
theorem AcO {xs ys:List AL} {Q:List AL→Prop} (hl:xs.length+ys.length≤1000000) (U:Q (xs++ys)):DN [xs,ys] Q:=by
  unfold DN FR
  refine AV (fun (s:Int) i=>(s,i)) 0 2 (by omega) (fun i s=>s=(((([xs,ys]:List (List AL)).take i).map List.length).sum:Nat)) (by omega) (by simp) (fun i s next _ hi O G=>?_) (fun s next O=>?_)
  · subst O
    refine AB (fun _=>?_) (fun h=>by simp at h; omega)
    match i,hi,G with
    | 0,_,G=>
      refine AP (x:=xs) (by omega) rfl ?_
      have e:AJ (((([xs,ys]:List (List AL)).take 0).map List.length).sum+(xs.length:Int))=xs.length:=by simp; exact BE (by omega) (by omega)
      rw [e]
      exact AB (fun h=>by omega) (fun _=>G _ (by simp))
    | 1,_,G=>
      refine AP (x:=ys) (by omega) rfl ?_
      have e:AJ (((([xs,ys]:List (List AL)).take 1).map List.length).sum+(ys.length:Int))=xs.length+ys.length:=by simp; exact BE (by omega) (by omega)
      rw [e]
      exact AB (fun h=>by omega) (fun _=>G _ (by simp))
  · subst O
    refine AB (fun h=>by simp at h) (fun _=>?_)
    have e:((((([xs,ys]:List (List AL)).take 2).map List.length).sum:Nat):Int)=xs.length+ys.length:=by simp
    rw [e,BE (x:=0 - 0) (by omega) (by omega),BE (x:=(xs.length:Int)+ys.length - (0 - 0)) (by omega) (by omega)]
    have hk:BB (fun (s:(List AL)×Int) (D:((List AL)×Int)→Prop)=>match s with | (s268,s272)=>AR (decide (s272<((([xs,ys]:List (List AL)).length:Nat):Int))) (AY [xs,ys] s272 fun J=>FX 24 s268 J fun _=>D ((s268++J),AJ (s272+1))) (Q s268)) ([],0):=by
      refine AV (fun (s:List AL) i=>(s,i)) 0 2 (by omega) (fun i s=>s=(([xs,ys]:List (List AL)).take i).flatten) (by omega) (by simp) (fun i s next _ hi O G=>?_) (fun s next O=>?_)
      · subst O
        refine AB (fun _=>?_) (fun h=>by simp at h; omega)
        match i,hi,G with
        | 0,_,G=>exact AP (x:=xs) (by omega) rfl (BA (by simp; omega) (G _ (by simp)))
        | 1,_,G=>exact AP (x:=ys) (by omega) rfl (BA (by simp; omega) (G _ (by simp)))
      · subst O
        refine AB (fun h=>by simp at h) (fun _=>?_)
        simpa using U
    exact AB (fun h=>by omega) (fun _=>AB (fun h=>⟨by omega,by omega,hk⟩) (fun h=>hk))
theorem Ah1 {g:AK} {Q:AK→Prop} (hl:g.Edges.length≤100000) (D:∀ e∈g.Edges,FL e.W) (J:Q (WP g)):X0 g Q:=by
  unfold X0
  have G:=mA (by omega) D
  refine Af8 (by omega) D (AcO (by omega) (OI (by simp; omega) (fun e he=>?_) J))
  rcases List.mem_append.1 he with h | h
  · exact D e h
  · exact G.2 e h
theorem wN {g:AK} {Q:AK→Prop} (hl:g.Edges.length≤100000) (D:∀ e∈g.Edges,FL e.W) (G:Q (WP g)):X1 g Q:=by
  unfold X1
  have J:=mA (by omega) D
  refine eH (by omega) D (BA (by omega) (SG (by simp; omega) (fun e he=>?_) ?_))
  · rcases List.mem_append.1 he with h | h
    · exact J.2 e h
    · exact D e h
  · unfold WP at G
    rw [zI List.perm_append_comm] at G
    exact G
theorem sO {g:AK} {Q:Rows×Int→Prop} (O:Q (X6 g)):VB g Q:=by
  unfold VB
  unfold X6 at O
  refine EM (FF (fun h=>?_) (fun h=>?_))
  · rwa [if_neg h] at O
  rw [if_pos h] at O
  have J:=YK h
  obtain ⟨h1,h2,h3,h4,Z⟩:=GJ h
  have hv:∀ t∈g.Edges,FL t.W:=fun e he=>by
    have:=Z e he
    unfold pD at this
    unfold FL
    omega
  refine eH (by omega) hv ?_
  have V:(g.Edges.map XN).map cD=g.Edges.map kvF:=by rw [List.map_map]; rfl
  unfold XP EU
  rw [V]
  have U:=(AjT (SC 1 (g.Edges.map kvF))).1
  have D:=J.len
  have G:=J.inn
  unfold HZ at O D G
  rw [U] at O D G
  generalize (MT (SC 1 (g.Edges.map kvF)) yL).1=es at O D G
  have hel:es.length≤65536:=by simpa using D
  refine AV (fun (s:List AD) i=>(s,i)) 0 es.length (by omega) (fun i s=>s=(es.take i).map e2t) (by omega) rfl (fun i s next _ hi Y hn=>?_) (fun s next Y=>?_)
  · subst Y
    dsimp only
    refine AB (fun _=>?_) (fun h=>by omega)
    refine AW hi (AW hi (AW hi (BA ?_ (hn _ ?_))))
    · simp; omega
    · rw [EQ hi]; rfl
  · subst Y
    dsimp only
    refine AB (fun h=>by omega) (fun _=>?_)
    rw [List.take_length]
    refine rB h1 (by omega) (by simp; omega) (fun t ht=>?_) O
    have:=G t ht
    unfold ZZ at this
    exact ⟨this.1,this.2.1⟩
theorem eI {z:Int} (h:FL z):JC (OR z)=(z,true):=by
  unfold JC OR
  unfold FL at h
  simp only [GW]
  rw [if_pos (by omega)]
  rw [Prod.mk.injEq]
  exact ⟨by omega,rfl⟩
theorem wO {k:FI} {v:AN}:∀ {l:List (FI×AN)} {p:FI×AN},p∈ins 1 k v l→p=(k,v)∨p∈l
  | [],p,h=>by simp [ins] at h; exact .inl h
  | q :: l,p,h=>by
    unfold ins at h
    split at h
    · rcases List.mem_cons.1 h with rfl | h
      · exact .inr (by simp)
      · rcases wO h with h | h
        · exact .inl h
        · exact .inr (by simp [h])
    · split at h
      · rename_i hk
        rcases List.mem_cons.1 h with rfl | h
        · unfold EK
          rw [if_pos (.inl rfl)]
          split
          · right
            obtain ⟨q1,q2⟩:=q
            simp only at hk
            subst hk; simp
          · exact .inl rfl
        · exact .inr (by simp [h])
      · rcases List.mem_cons.1 h with rfl | h
        · exact .inl rfl
        · exact .inr h
theorem Ah2:∀ {D:List (FI×Int)} {p:FI×AN},p∈SC 1 D→∃ t∈D,p=(t.1,LI t.2):=by
  suffices ∀ (D:List (FI×Int)) (l:List (FI×AN)) p,p∈D.foldl (fun l t=>ins 1 t.1 (LI t.2) l) l→(∃ t∈D,p=(t.1,LI t.2))∨p∈l from fun {D p} h=>by
    rcases this D [] p h with h | h
    · exact h
    · simp at h
  intro D
  induction D with
  | nil=>intro l p h; exact .inr h
  | cons t D U=>
    intro l p h
    rcases U _ _ h with ⟨x,J,e⟩ | V
    · exact .inl ⟨x,by simp [J],e⟩
    · rcases wO V with G | O
      · exact .inl ⟨t,by simp,G⟩
      · exact .inr O
theorem SV {es:List AL} (G:∀ e∈es,FL e.W) {e:AL} (he:e∈EU es):e∈es:=by
  unfold EU MT at he
  split at he
  · obtain ⟨p,hp,rfl⟩:=List.mem_map.1 he
    obtain ⟨t,D,rfl⟩:=Ah2 hp
    obtain ⟨x,h,rfl⟩:=List.mem_map.1 D
    simp only [cD]
    rw [rF (G x h)]
    exact h
  · cases he
def JH (n:Int) (es:List AL):Prop:=∀ e∈es,jO n e∧pD e
theorem ES {n:Int} {es:List AL} (h:JH n es):∀ e∈es,FL e.W:=fun e he=>by have:=(h e he).2; unfold pD at this; unfold FL; omega
theorem QW {n:Int} {es:List AL} (h:JH n es):JH n (EU es):=fun e he=>h e (SV (ES h) he)
theorem SW {n:Int} {es:List AL} (h:JH n es):JH n (es.map sM):=fun e he=>by
  obtain ⟨x,D,rfl⟩:=List.mem_map.1 he
  exact ⟨(h x D).1,by unfold pD sM; simp⟩
theorem UH {n:Int} {es:List AL} (h:JH n es):JH n (es.map XN):=fun e he=>by
  obtain ⟨x,D,rfl⟩:=List.mem_map.1 he
  have:=h x D
  exact ⟨⟨this.1.2,this.1.1⟩,this.2⟩
theorem pW {n:Int} {xs ys:List AL} (h:JH n xs) (G:JH n ys):JH n (xs++ys):=fun e he=>by
  rcases List.mem_append.1 he with D | D
  · exact h e D
  · exact G e D
theorem PO {g:AK} (h:DW g=0):JH g.N g.Edges:=fun e he=>⟨(GJ h).2.2.2.1 e he,(GJ h).2.2.2.2 e he⟩
theorem zJ {g:AK} (h0:0≤g.N∧g.N≤4096) (hl:g.Edges.length≤65536) (h:JH g.N g.Edges):DW g=0:=by
  unfold DW
  rw [if_neg (by omega),if_neg (by omega),if_neg (fun D=>D fun e he=>(h e he).1),if_neg (fun D=>D fun e he=>(h e he).2)]
def noL (es:List AL):Prop:=∀ e∈es,e.From≠e.To
theorem mB {g:AK} (h:JH g.N g.Edges):JH (YS g).N (YS g).Edges∧(YS g).Edges.length≤g.Edges.length∧(noL g.Edges→noL (YS g).Edges):=by
  refine ⟨QW (SW h),?_,fun G e he=>?_⟩
  · have:=WO (ES (SW h)); rwa [List.length_map] at this
  · have:=SV (ES (SW h)) he
    obtain ⟨x,D,rfl⟩:=List.mem_map.1 this
    exact G x D
theorem fY {g:AK} (h:JH g.N g.Edges):JH (WP g).N (WP g).Edges∧(WP g).Edges.length≤2*g.Edges.length∧(noL g.Edges→noL (WP g).Edges):=by
  have U:JH g.N (XP g).Edges:=QW (UH h)
  have G:=pW h U
  refine ⟨QW G,?_,fun O e he=>?_⟩
  · have D:=WO (ES G)
    have J:=WO (ES (UH h))
    rw [List.length_append] at D
    rw [List.length_map] at J
    have:(XP g).Edges.length≤g.Edges.length:=J
    show (EU _).length≤_
    omega
  · rcases List.mem_append.1 (SV (ES G) he) with D | D
    · exact O e D
    · obtain ⟨x,V,rfl⟩:=List.mem_map.1 (SV (ES (UH h)) D)
      exact fun e=>O x V e.symm
def ltE (a b:AL):Prop:=NK (a.From,a.To) (b.From,b.To)
theorem AcP {es:List AL} (h:∀ e∈es,FL e.W):(EU es).Pairwise ltE:=by
  unfold EU
  rw [dN (fun t G=>by obtain ⟨e,he,rfl⟩:=List.mem_map.1 G; exact h e he)]
  simp only
  rw [List.pairwise_map]
  exact (OD 1 (es.map cD)).imp fun {a b} D=>D
theorem zK {es:List AL} (h:∀ e∈es,FL e.W) (O:es.Pairwise ltE):EU es=es:=by
  have U:es.map cD=(es.map e2t).map uO:=by rw [List.map_map]; rfl
  have G:Srt (es.map e2t):=by
    unfold Srt
    rw [List.pairwise_map]
    exact O.imp fun {a b} D=>D
  unfold EU
  rw [dN (fun t J=>by obtain ⟨e,he,rfl⟩:=List.mem_map.1 J; exact h e he)]
  simp only
  rw [U,AaY G,List.map_map,List.map_map]
  conv=>rhs; rw [←List.map_id es]
  refine List.map_congr_left fun e he=>?_
  simp only [Function.comp_apply,e2t,key,id_eq]
  rw [rF (h e he)]
  rfl
theorem AcQ {g:AK} (h:∀ e∈g.Edges,FL e.W) {t:AD}:t∈HZ g↔(⟨t.Col,t.Row,t.Val⟩:AL)∈EU g.Edges:=by
  have G:∀ t∈g.Edges.map cD,FL t.2:=fun t D=>by obtain ⟨e,he,rfl⟩:=List.mem_map.1 D; exact h e he
  have O:∀ t∈g.Edges.map kvF,FL t.2:=fun t D=>by obtain ⟨e,he,rfl⟩:=List.mem_map.1 D; exact h e he
  unfold HZ EU
  rw [dN G,dN O]
  simp only
  rw [List.mem_map,List.mem_map]
  constructor
  · rintro ⟨p,hp,rfl⟩
    obtain ⟨q,J,rfl⟩:=List.mem_map.1 ((AaX g.Edges).mem_iff.2 hp)
    exact ⟨q,J,rfl⟩
  · rintro ⟨q,J,he⟩
    refine ⟨sw q,(AaX g.Edges).mem_iff.1 (List.mem_map_of_mem J),?_⟩
    obtain ⟨tr,tc,tv⟩:=t
    unfold yL at he
    simp only [AL.mk.injEq] at he
    obtain ⟨V,Y,U⟩:=he
    unfold uP sw
    simp only [AD.mk.injEq]
    exact ⟨Y,V,U⟩
def aB:Nat→(Nat→Int)→Int
  | 0,_=>0
  | n+1,f=>aB n f+f n
def gO (o:Option Int):Int:=(AkE o).1
theorem mC {f g:Nat→Int}:∀ {n:Nat},(∀ j,j<n→f j=g j)→aB n f=aB n g
  | 0,_=>rfl
  | n+1,h=>by show aB n f+f n=aB n g+g n; rw [mC fun j hj=>h j (by omega),h n (by omega)]
theorem AjZ (A B:Int→Option Int):∀ n:Nat,(YM 5 n A B=none∧aB n (fun j=>gO (A j)*gO (B j))=0)∨YM 5 n A B=some (OR (aB n fun j=>gO (A j)*gO (B j)))
  | 0=>.inl ⟨rfl,rfl⟩
  | n+1=>by
    have ih:=AjZ A B n
    rw [fK]
    unfold iB
    show (_∧aB n (fun j=>gO (A j)*gO (B j))+gO (A n)*gO (B n)=0)∨_=some (OR (aB n (fun j=>gO (A j)*gO (B j))+gO (A n)*gO (B n)))
    generalize aB n (fun j=>gO (A j)*gO (B j))=s at ih ⊢
    cases A n with
    | none=>
      have e:gO none*gO (B n)=0:=by show (0:Int)*_=0; omega
      rw [e,Int.add_zero]; exact ih
    | some a=>
      cases B n with
      | none=>
        have e:gO (some a)*gO none=0:=by show _*(0:Int)=0; omega
        rw [e,Int.add_zero]; exact ih
      | some x=>
        have D:lG 5 a x=OR (a*x):=rfl
        have e:gO (some a)*gO (some x)=a*x:=rfl
        rw [e]
        dsimp only
        rw [D]
        rcases ih with ⟨h,G⟩ | h
        · rw [h,G,Int.zero_add]; exact .inr rfl
        · rw [h]
          refine .inr ?_
          show some (EK 5 (OR s) (OR (a*x)))=_
          rw [SA]
def aT (T:List AD) (u j:Nat):Int:=gO (XS (fJ T u) j)
structure Light (n:Nat) (T:List AD):Prop where
  can:Canon n n T
  small:n≤30
  val:∀ t∈T,0≤t.Val∧t.Val≤7
theorem Light.int {n:Nat} {T:List AD} (h:Light n T) {t:AD} (D:t∈T):FL t.Val:=by have:=h.val t D; unfold FL; omega
theorem wP {T:List AD} {n:Nat} (h:Light n T) (i c:Nat) :
    (NB 5 T T i c=none∧aB n (fun j=>aT T i j*aT T j c)=0)∨NB 5 T T i c=some (OR (aB n fun j=>aT T i j*aT T j c)):=by
  rw [UE h.can (by omega)]
  exact AjZ (XS (fJ T i)) (yU T c) n
theorem zL {r:Int} {c:AM} {t:AD} (h:rO r c=some t):t.Row=c.Row∧t.Col=c.Col:=by
  unfold rO at h
  split at h
  · cases h; exact ⟨rfl,rfl⟩
  · cases h
theorem Af9 {a b:Int}:∀ {E:List AL},E.Pairwise ltE→AcL E a b=if ∃ e∈E,e.From=a∧e.To=b then 1 else 0
  | [],_=>by simp [AcL]
  | e :: E,h=>by
    have ih:=Af9 (a:=a) (b:=b) (List.Pairwise.of_cons h)
    rw [AcM,ih]
    by_cases he:e.From=a∧e.To=b
    · have O:¬ ∃ x∈E,x.From=a∧x.To=b:=by
        rintro ⟨x,D,G,U⟩
        have:=List.rel_of_pairwise_cons h D
        unfold ltE at this
        rw [he.1,he.2,G,U] at this
        exact FC _ this
      rw [if_neg O,if_pos he,if_pos ⟨e,List.mem_cons_self,he⟩]
    · rw [if_neg he]
      by_cases D:∃ x∈E,x.From=a∧x.To=b
      · obtain ⟨x,D,G⟩:=D
        rw [if_pos ⟨x,D,G⟩,if_pos ⟨x,List.mem_cons_of_mem _ D,G⟩]
      · rw [if_neg D,if_neg]
        rintro ⟨x,J,G⟩
        rcases List.mem_cons.1 J with rfl | J
        · exact he G
        · exact D ⟨x,J,G⟩
structure PlainP (n:Nat) (g:AK):Prop where
  N:g.N=n
  good:JH g.N g.Edges
  srt:g.Edges.Pairwise ltE
  one:∀ e∈g.Edges,e.W=1
theorem Ah3 {g:AK} {n:Nat} (D:g.N=n) (h:JH g.N g.Edges):PlainP n (YS g):=by
  refine ⟨D,(mB h).1,AcP (ES (SW h)),fun e he=>?_⟩
  have:=SV (ES (SW h)) he
  obtain ⟨x,_,rfl⟩:=List.mem_map.1 this
  rfl
variable {n:Nat} {g:AK}
theorem PlainP.mem (h:PlainP n g) {t:AD}:t∈HZ g↔(⟨t.Col,t.Row,t.Val⟩:AL)∈g.Edges:=by
  rw [AcQ (ES h.good),zK (ES h.good) h.srt]
theorem PlainP.right (h:PlainP n g) (hn:n≤4096) (D:g.Edges.length≤65536):DW g=0:=zJ (by rw [h.N]; omega) D h.good
theorem PlainP.light (h:PlainP n g) (J:n≤30) (G:g.Edges.length≤65536):Light n (HZ g):=by
  have D:=YK (h.right (by omega) G)
  rw [h.N] at D
  exact ⟨D,J,fun t O=>by have:=h.one _ (h.mem.1 O); simp only at this; omega⟩
theorem PlainP.val (h:PlainP n g) (D:Canon n n (HZ g)) (u j:Nat):aT (HZ g) u j=(AcL g.Edges (j:Int) (u:Int):Int):=by
  rw [Af9 h.srt]
  unfold aT
  cases e:XS (fJ (HZ g) u) j with
  | some x=>
    have G:=h.mem.1 ((WN D (by omega)).1 e)
    rw [if_pos ⟨_,G,rfl,rfl⟩]
    have:=h.one _ G
    simp only at this
    show x=_
    rw [this]; rfl
  | none=>
    rw [if_neg]
    · rfl
    · rintro ⟨x,O,J,U⟩
      have:(⟨(u:Int),(j:Int),x.W⟩:AD)∈HZ g:=h.mem.2 (by simp only; rw [←J,←U]; exact O)
      rw [(WN D (by omega)).2 this] at e
      cases e
theorem wQ (f:Nat→Nat):∀ m:Nat,aB m (fun j=>(f j:Int))=(MA f m:Int)
  | 0=>rfl
  | m+1=>by show aB m (fun j=>(f j:Int))+(f m:Int)=_; rw [wQ f m]; show _=((MA f m+f m:Nat):Int); omega
end Go.Proofs.YtbohadngdkjljaaGreat
