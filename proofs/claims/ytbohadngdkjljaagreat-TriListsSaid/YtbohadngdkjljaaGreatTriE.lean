import Derived.Test.YtbohadngdkjljaaGreatTriB
namespace Go.Proofs.YtbohadngdkjljaaGreat
open Go Go.Fw
set_option linter.unusedVariables false
set_option linter.unusedSimpArgs false
variable {n:Nat} {g:AK}
theorem wT {f:List Int} {p:Nat→Bool} (J:n≤64*f.length) (hp:∀ j:Nat,j<n→MV f j=p j) (G:∀ j:Nat,n≤j→MV f j=false):vE f=((List.range n).filter p).map fun i:Nat=>(i:Int):=by
  have e:vE f=YT f (64*f.length):=rfl
  rw [e,bQ _ J fun m h _=>G m h]
  unfold YT
  congr 1
  refine List.filter_congr fun j D=>?_
  exact hp j (List.mem_range.1 D)
theorem AbH (hn:n≤4096):n≤64*LP n:=by
  rcases Nat.eq_zero_or_pos n with h | h
  · omega
  · have:=lI (n:=n) (i:=((n - 1:Nat):Int)) (by omega) (by omega) (by omega)
    omega
def lA (nr:Nat→Nat→Bool) (n a:Nat):List Nat:=(List.range n).filter fun b=>decide (a<b) && nr a b
def lC (nr:Nat→Nat→Bool) (n a b:Nat):List Nat:=(List.range n).filter fun c=>decide (b<c) && (nr a c && nr b c)
structure AbI (g:AK) (n:Nat) (E:List AL):Prop where
  ends:∀ a b:Int,IP E a b↔b<a∧AbE g a b
theorem zO {E:List AL} (O:AbI g n E) (V:n≤4096) (a j:Nat) (hj:j<n):MV (upF E n a) j=(decide (a<j) && CE g a j):=by
  have h:=(WR E V a).2.2 (j:Int)
  have J:=O.ends (j:Int) (a:Int)
  have G:=gA (g:=g) (a:=(j:Int)) (b:=(a:Int))
  have D:=mF g (a:Int) (j:Int)
  cases hb:(decide (a<j) && CE g a j) with
  | true=>
    simp only [Bool.and_eq_true,decide_eq_true_eq] at hb
    refine h.2 ⟨J.2 ⟨by omega,G.1 ?_⟩,by omega,by omega⟩
    rw [←D]; exact hb.2
  | false=>
    cases hc:MV (upF E n a) j with
    | false=>rfl
    | true=>
      obtain ⟨q1,U⟩:=J.1 (h.1 hc).1
      have:CE g a j=true:=by show OJ g a j=true; rw [D]; exact G.2 U
      rw [this,decide_eq_true (by omega)] at hb
      cases hb
theorem AbJ {E:List AL} (h:n≤4096) (a j:Nat) (hj:n≤j):MV (upF E n a) j=false:=by
  cases hc:MV (upF E n a) j with
  | false=>rfl
  | true=>have:=((WR E h a).2.2 (j:Int)).1 hc; omega
theorem AiS {E:List AL} (G:AbI g n E) (h:n≤4096) (a:Nat):vE (upF E n a)=(lA (CE g) n a).map fun i:Nat=>(i:Int):=
  wT (by rw [(WR E h a).2.1]; exact AbH h) (fun j D=>zO G h a j D) fun j D=>AbJ h a j D
theorem AiT {E:List AL} (J:AbI g n E) (D:n≤4096) {a b:Nat} (O:a<b):vE (VQ (upF E n a) (upF E n b))=(lC (CE g) n a b).map fun i:Nat=>(i:Int):=by
  refine wT (by rw [SX,(WR E D a).2.1]; exact AbH D) (fun j G=>?_) fun j G=>by rw [pX,AbJ D a j G]; rfl
  rw [pX,zO J D a j G,zO J D b j G]
  by_cases h:b<j
  · rw [decide_eq_true h,decide_eq_true (by omega)]; simp
  · rw [decide_eq_false h]; simp
theorem Ak0 {nr:Nat→Nat→Bool} (a b:Nat):tC nr a b n=(lC nr n a b).map fun c:Nat=>((a:Int),(b:Int),(c:Int)):=rfl
theorem iG {α β:Type} (p:α→Bool) (f:α→List β):∀ l:List α,(l.filter p).flatMap f=l.flatMap fun x=>if p x=true then f x else []
  | []=>rfl
  | x :: l=>by
    rw [List.flatMap_cons,←iG p f l,List.filter_cons]
    cases h:p x with
    | true=>simp
    | false=>simp
theorem AhM {nr:Nat→Nat→Bool} (a:Nat):tB nr n a n=(lA nr n a).flatMap fun b=>tC nr a b n:=by
  unfold tB lA
  rw [iG]
  congr 1
  funext b
  simp only [Bool.and_eq_true,decide_eq_true_eq]
theorem AcV {α β:Type} {l:List α} {i:Nat} (h:i<l.length) (f:α→List β):(l.take (i+1)).flatMap f=(l.take i).flatMap f++f l[i]:=by
  rw [List.take_succ_eq_append_getElem h,List.flatMap_append]
  simp
theorem pZ {α β:Type} {f:α→List β} {m:Nat}:∀ {l:List α},(∀ x∈l,(f x).length≤m)→(l.flatMap f).length≤l.length*m
  | [],_=>by simp
  | x :: l,h=>by
    rw [List.flatMap_cons,List.length_append,List.length_cons,Nat.succ_mul]
    have h1:=h x (by simp)
    have h2:=pZ (l:=l) fun y D=>h y (by simp [D])
    omega
theorem AiU {nr:Nat→Nat→Bool} (a:Nat):(lA nr n a).length≤n:=by
  have:=List.length_filter_le (fun b=>decide (a<b) && nr a b) (List.range n)
  rwa [List.length_range] at this
theorem AiV {nr:Nat→Nat→Bool} (a b:Nat):(lC nr n a b).length≤n:=by
  have:=List.length_filter_le (fun c=>decide (b<c) && (nr a c && nr b c)) (List.range n)
  rwa [List.length_range] at this
def okT (n:Nat) (t:T3):Prop:=(0≤t.1∧t.1<n)∧(0≤t.2.1∧t.2.1<n)∧0≤t.2.2∧t.2.2<n
def AcW (σ:Type) (o0:Nat) (o1:σ) (o2:AK) (Y:Nat→σ→T3→((Bool×Nat×σ)→Prop)→Prop) (Q:(Nat×σ)→Prop):Prop:=
  HF o2 fun r26=>AR (r26 != 0) (Q (o0,o1)) (ZM o2 fun r41=>BB (fun (s:σ×Int×Nat) (J:(σ×Int×Nat)→Prop)=>match s with | (s1661,s1665,s1666)=>AR (decide (s1665<(r41.length:Int))) (AY r41 s1665 fun W=>JA W fun U=>BB (fun (s:σ×Int×Nat) (G:(σ×Int×Nat)→Prop)=>match s with | (s2217,s2221,s2222)=>AR (decide (s2221<(U.length:Int))) (AY U s2221 fun V=>AY r41 V fun x2287=>PG W x2287 fun Z=>JA Z fun O=>BB (fun (s:σ×Int×Nat) (D:(σ×Int×Nat)→Prop)=>match s with | (s2418,s2422,s2423)=>AR (decide (s2422<(O.length:Int))) (AY O s2422 fun x2442=>Y s2423 s2418 (s1665,V,x2442) fun h=>AR (!h.1) (Q (h.2.1,h.2.2)) (D (h.2.2,AJ (s2422+1),h.2.1))) (G (s2418,AJ (s2221+1),s2423))) (s2217,0,s2222)) (J (s2217,AJ (s1665+1),s2222))) (s1661,0,s1666)) (Q (s1666,s1661))) (o1,0,o0))
theorem AbK {σ:Type} (h:DW g=0) (hN:g.N=n) (hn:n≤30) (step:σ→T3→σ) (s0:σ) {Y:Nat→σ→T3→((Bool×Nat×σ)→Prop)→Prop} {Q:(Nat×σ)→Prop}
    (hY:∀ (pre:List T3) (t:T3),pre.length≤200000→okT n t→∀ Qy:(Bool×Nat×σ)→Prop,Qy (true,0,step (pre.foldl step s0) t)→Y 0 (pre.foldl step s0) t Qy)
    (hQ:Q (0,(YV (CE g) n).foldl step s0)):AcW σ 0 s0 g Y Q:=by
  unfold AcW
  have hE:AbI g n (LJ g).Edges:=⟨(sR hN (PO h)).2.2⟩
  refine GO ?_
  rw [h]
  refine AO (by simp) (AiR h hN (by omega) ?_)
  generalize (LJ g).Edges=E at hE
  have Z:(AcU E n).length=n:=by simp [AcU]
  have hU:∀ a (ha:a<(AcU E n).length),(AcU E n)[a]=upF E n a:=fun a ha=>by simp [AcU]
  have hws:LP n≤64:=uX n
  refine AV (s0:=(s0,(0:Nat))) (fun (s:σ×Nat) i=>(s.1,i,s.2)) 0 n (by omega) (fun a s=>s.2=0∧s.1=(aC (CE g) n a).foldl step s0) (by omega) ⟨rfl,rfl⟩ (fun a s next _ ha O hx=>?_) (fun s next O=>?_)
  rotate_left
  · obtain ⟨s1,s2⟩:=s
    obtain ⟨D,G⟩:=O
    simp only at D G ⊢
    subst D G
    exact AO (by rw [Z]; simp) hQ
  obtain ⟨s1,s2⟩:=s
  obtain ⟨D,G⟩:=O
  simp only at D G ⊢
  subst D G
  obtain ⟨f1,f2,_⟩:=WR E (n:=n) (by omega) a
  refine AX (by rw [Z]; simp; omega) (AW (by omega) ?_)
  rw [hU]
  refine aX f1 (by omega) ?_
  rw [AiS hE (by omega)]
  have hla:=AiU (nr:=CE g) (n:=n) a
  have hba:=ZX hn (Nat.le_of_lt ha)
  have hta:=WQ (nr:=CE g) (n:=n) a
  refine AV (s0:=((aC (CE g) n a).foldl step s0,(0:Nat))) (fun (s:σ×Nat) i=>(s.1,i,s.2)) 0 (lA (CE g) n a).length (by omega) (fun i s=>s.2=0∧s.1=(aC (CE g) n a++((lA (CE g) n a).take i).flatMap fun b=>tC (CE g) a b n).foldl step s0) (by omega) ⟨rfl,by simp⟩ (fun i s U _ hi O hy=>?_) (fun s U O=>?_)
  rotate_left
  · obtain ⟨t1,t2⟩:=s
    obtain ⟨D,G⟩:=O
    simp only at D G ⊢
    subst D G
    refine AO (by simp) (hx (_,0) ⟨rfl,?_⟩)
    rw [List.take_length,←AhM,gB]
  obtain ⟨t1,t2⟩:=s
  obtain ⟨D,G⟩:=O
  simp only at D G ⊢
  subst D G
  have hbm:=List.getElem_mem hi
  obtain ⟨b,hb⟩:∃ b,b=(lA (CE g) n a)[i]:=⟨_,rfl⟩
  have J:b∈lA (CE g) n a:=by rw [hb]; exact hbm
  unfold lA at J
  rw [List.mem_filter,List.mem_range] at J
  obtain ⟨hbn,hab⟩:=J
  simp only [Bool.and_eq_true,decide_eq_true_eq] at hab
  have eb:((lA (CE g) n a).map fun i:Nat=>(i:Int))[i]'(by simpa using hi)=(b:Int):=by rw [List.getElem_map,hb]
  refine AX (by simp; omega) (AW (by simpa using hi) ?_)
  rw [eb]
  obtain ⟨f3,f4,_⟩:=WR E (n:=n) (by omega) b
  refine AW (by omega) ?_
  rw [hU]
  refine nU f1 f3 (by omega) (aX (AfA f1) (by rw [SX]; omega) ?_)
  rw [AiT hE (by omega) hab.1]
  have hlc:=AiV (nr:=CE g) (n:=n) a b
  have hfl:(((lA (CE g) n a).take i).flatMap fun b=>tC (CE g) a b n).length≤900:=by
    have D:=pZ (m:=n) (l:=(lA (CE g) n a).take i) (f:=fun b=>tC (CE g) a b n) fun x _=>zM a x n
    have G:((lA (CE g) n a).take i).length*n≤30*30:=Nat.mul_le_mul (by rw [List.length_take]; omega) hn
    omega
  generalize hpre:aC (CE g) n a++((lA (CE g) n a).take i).flatMap (fun b=>tC (CE g) a b n)=pre at hy ⊢
  have hpl:pre.length≤27900:=by rw [←hpre,List.length_append]; omega
  refine AV (s0:=(pre.foldl step s0,(0:Nat))) (fun (s:σ×Nat) i=>(s.1,i,s.2)) 0 (lC (CE g) n a b).length (by omega) (fun j s=>s.2=0∧s.1=(pre++((lC (CE g) n a b).take j).map fun c:Nat=>((a:Int),(b:Int),(c:Int))).foldl step s0) (by omega) ⟨rfl,by simp⟩ (fun j s V _ hj O hz=>?_) (fun s V O=>?_)
  · obtain ⟨u1,u2⟩:=s
    obtain ⟨D,G⟩:=O
    simp only at D G ⊢
    subst D G
    obtain ⟨c,hc⟩:∃ c,c=(lC (CE g) n a b)[j]:=⟨_,rfl⟩
    have W:c∈lC (CE g) n a b:=by rw [hc]; exact List.getElem_mem hj
    unfold lC at W
    rw [List.mem_filter,List.mem_range] at W
    have ec:((lC (CE g) n a b).map fun i:Nat=>(i:Int))[j]'(by simpa using hj)=(c:Int):=by rw [List.getElem_map,hc]
    refine AX (by simp; omega) (AW (by simpa using hj) ?_)
    rw [ec]
    refine hY _ _ (by simp only [List.length_append,List.length_map,List.length_take]; omega) (show okT n ((a:Int),(b:Int),(c:Int)) from ⟨by simp only; omega,by simp only; omega,by simp only; omega⟩) _ ?_
    refine AO rfl (hz (_,0) ⟨rfl,?_⟩)
    show step _ _=_
    rw [List.take_succ_eq_append_getElem hj,List.map_append,←List.append_assoc,List.foldl_append (l:=pre++_),←hc]
    rfl
  · obtain ⟨u1,u2⟩:=s
    obtain ⟨D,G⟩:=O
    simp only at D G ⊢
    subst D G
    refine AO (by simp) (hy (_,0) ⟨rfl,?_⟩)
    show List.foldl step s0 _=_
    rw [List.take_length,AcV hi,←List.append_assoc,hpre,←hb,Ak0]
theorem bR {α:Type}:∀ (l h:List α),l.foldl (fun s t=>s++[t]) h=h++l
  | [],h=>by simp
  | x :: l,h=>by rw [List.foldl_cons,bR l]; simp
theorem iH {Q:List T3→Prop} (h:DW g=0) (O:g.N=n) (U:n≤30) (J:Q (YV (CE g) n)):WG g Q:=by
  show AcW (List T3) 0 [] g (fun y s t D=>eqP y 0 (FX 24 s [t] fun _=>D (true,0,s++[t]))) (fun r=>eqP r.1 0 (Q r.2))
  refine AbK h O U (fun s t=>s++[t]) [] (fun pre t hl ht D G=>⟨rfl,BA ?_ G⟩) ⟨rfl,?_⟩
  · rw [bR]; simp; omega
  · rw [bR]; exact J
theorem sV {Q:List T3→Prop} (h:DW g≠0) (G:Q []):WG g Q:=by
  show AcW (List T3) 0 [] g (fun y s t D=>eqP y 0 (FX 24 s [t] fun _=>D (true,0,s++[t]))) (fun r=>eqP r.1 0 (Q r.2))
  unfold AcW
  exact GO (AX (by simpa using h) ⟨rfl,G⟩)
def AfE (y:List Int) (i:Int):List Int:=y.set i.toNat (AJ (FG y i+1))
def wU (y:List Int) (t:T3):List Int:=AfE (AfE (AfE y t.1) t.2.1) t.2.2
theorem AfF (y:List Int) (i:Int):(AfE y i).length=y.length:=by simp [AfE]
theorem AfG (y:List Int) (t:T3):(wU y t).length=y.length:=by simp [wU,AfF]
theorem mG (l:List T3):∀ y:List Int,(l.foldl wU y).length=y.length:=by
  induction l with
  | nil=>intro y; rfl
  | cons t l h=>intro y; rw [List.foldl_cons,h,AfG]
theorem zQ {y:List Int} {i:Int} {K:Int→Prop} (D:0≤i) (h:i<y.length) (G:K (FG y i)):AY y i fun x=>AY y i fun _=>K x:=EF D h (EF D h G)
def ofT (n:Nat) (l:List T3):List Int:=l.foldl wU (List.replicate n 0)
theorem qA {Q:List Int→Prop} (h:DW g=0) (hN:g.N=n) (hn:n≤30) (hQ:Q (ofT n (YV (CE g) n))):YE g Q:=by
  unfold YE VF
  refine GO ?_
  rw [h,hN]
  refine AO (by simp) ⟨by omega,by omega,?_⟩
  have hr:List.replicate ((n:Int)).toNat (0:Int)=List.replicate n 0:=by simp
  rw [hr]
  suffices key:AcW (List Int) 0 (List.replicate n 0) g (fun (W:Nat) (G:List Int) (D:T3) (Qy:(Bool×Nat×(List Int))→Prop)=>eqP W 0 (AY G D.1 fun J=>AY G D.1 fun x136=>AY (G.set D.1.toNat (AJ (J+1))) D.2.1 fun O=>AY (G.set D.1.toNat (AJ (J+1))) D.2.1 fun x142=>AY ((G.set D.1.toNat (AJ (J+1))).set D.2.1.toNat (AJ (O+1))) D.2.2 fun V=>AY ((G.set D.1.toNat (AJ (J+1))).set D.2.1.toNat (AJ (O+1))) D.2.2 fun Y=>Qy (true,0,(((G.set D.1.toNat (AJ (J+1))).set D.2.1.toNat (AJ (O+1))).set D.2.2.toNat (AJ (V+1)))))) (fun r=>eqP r.1 0 (Q r.2)) from key
  refine AbK h hN hn wU (List.replicate n 0) (fun pre t hl ht Qy Z=>⟨rfl,?_⟩) ⟨rfl,hQ⟩
  have U:(pre.foldl wU (List.replicate n 0)).length=n:=by rw [mG]; simp
  generalize pre.foldl wU (List.replicate n 0)=y at U Z
  obtain ⟨⟨a0,a1⟩,⟨b0,b1⟩,c0,c1⟩:=ht
  refine zQ a0 (by omega) (zQ b0 (by simp; omega) (zQ c0 (by simp; omega) ?_))
  exact Z
theorem zT {Q:List Int→Prop} (h:DW g≠0) (D:Q []):YE g Q:=by
  unfold YE
  exact GO (AX (by simpa using h) D)
theorem Ah5 {nr:Nat→Nat→Bool} {t:T3} (D:t∈YV nr n):∃ a b c:Nat,t=((a:Int),(b:Int),(c:Int))∧(a<b∧b<c∧c<n)∧nr a b=true∧nr a c=true∧nr b c=true:=by
  obtain ⟨a,ha,D⟩:=List.mem_flatMap.1 D
  rw [AhM] at D
  obtain ⟨b,G,D⟩:=List.mem_flatMap.1 D
  obtain ⟨c,h,rfl⟩:=List.mem_map.1 D
  unfold lA at G
  rw [List.mem_filter,List.mem_range] at G h
  simp only [Bool.and_eq_true,decide_eq_true_eq] at G h
  exact ⟨a,b,c,rfl,⟨G.2.1,h.2.1,h.1⟩,G.2.2,h.2.2.1,h.2.2.2⟩
theorem AfH {nr:Nat→Nat→Bool} {t:T3} (D:t∈YV nr n):okT n t:=by
  obtain ⟨a,b,c,rfl,h,_⟩:=Ah5 D
  exact ⟨by simp only; omega,by simp only; omega,by simp only; omega⟩
theorem wV {Q:List Int→Prop} (h:DW g=0) (V:g.N=n) (W:n≤30) (J:Q (ofT n (YV (CE g) n))):WF g Q:=by
  unfold WF
  refine EM ?_
  rw [h,V]
  refine AO (by simp) ⟨by omega,by omega,iF h V W ?_⟩
  have Z:List.replicate ((n:Int)).toNat (0:Int)=List.replicate n 0:=by simp
  rw [Z]
  have hl:(YV (CE g) n).length≤n*(n*n):=WQ n
  have hb:=ZX W (Nat.le_refl n)
  have D:∀ t∈YV (CE g) n,okT n t:=fun t Y=>AfH Y
  unfold ofT at J
  generalize YV (CE g) n=L at hl D J
  refine AV (fun (s:List Int) i=>(s,i)) 0 L.length (by omega) (fun i s=>s=(L.take i).foldl wU (List.replicate n 0)) (by omega) rfl (fun i s next _ hi G hx=>?_) (fun s next G=>?_)
  · have O:s.length=n:=by rw [G,mG]; simp
    obtain ⟨⟨a0,a1⟩,⟨U,b1⟩,c0,c1⟩:=D _ (List.getElem_mem hi)
    refine AX (by simp; omega) (AW hi (EF a0 (by omega) (EF a0 (by omega) (AW hi (EF U (by simp; omega) (EF U (by simp; omega) (AW hi (EF c0 (by simp; omega) (EF c0 (by simp; omega) (hx _ ?_))))))))))
    rw [List.take_succ_eq_append_getElem hi,List.foldl_append,←G]
    rfl
  · subst G
    rw [List.take_length]
    exact AO (by simp) J
theorem zU {Q:List Int→Prop} (h:DW g≠0) (D:Q []):WF g Q:=by
  unfold WF
  exact EM (AX (by simpa using h) D)
theorem gD {l:List Int} {Q:Bool→Prop} (hl:l.length≤1000000) (D:Q true):FB l l Q:=by
  unfold FB
  refine AO (by simp) (DC l.length (by omega) (fun _=>True) trivial (fun i next hi _ h=>AX (by simp; omega) (AW hi (AW hi (AO (by simp) (h trivial))))) fun next _=>AO (by simp) D)
theorem sW {l:List T3} {Q:Bool→Prop} (hl:l.length≤1000000) (D:Q true):TS l l Q:=by
  unfold TS
  refine AO (by simp) (DC l.length (by omega) (fun _=>True) trivial (fun i next hi _ h=>AX (by simp; omega) (AW hi (AW hi (AO (by simp) (h trivial))))) fun next _=>AO (by simp) D)
variable {n:Nat} {g:AK}
theorem AbL (c:Nat) (f:Nat→Nat):∀ m,MA (fun i=>c*f i) m=c*MA f m
  | 0=>rfl
  | m+1=>by show MA _ m+c*f m=c*(MA f m+f m); rw [AbL c f m,Nat.mul_add]
theorem wW (f:Nat→Nat→Nat) (a:Nat):∀ b,MA (fun i=>MA (fun j=>f i j) a) b=MA (fun j=>MA (fun i=>f i j) b) a
  | 0=>by
    show 0=MA (fun _=>0) a
    rw [JO]; simp
  | b+1=>by
    show MA _ b+MA (fun j=>f b j) a=MA (fun j=>MA (fun i=>f i j) b+f b j) a
    rw [wW f a b,AbD]
theorem mH {α β:Type} (f:α→List β):∀ l:List α,(l.flatMap f).length=(l.map fun x=>(f x).length).sum
  | []=>rfl
  | x :: l=>by rw [List.flatMap_cons,List.length_append,mH f l]; rfl
theorem gE (f:Nat→Nat):∀ m,((List.range m).map f).sum=MA f m
  | 0=>rfl
  | m+1=>by rw [List.range_succ,List.map_append,List.sum_append,gE f m]; simp [MA]
theorem mI (p:Nat→Bool):∀ m,((List.range m).filter p).length=MA (fun i=>if p i=true then 1 else 0) m
  | 0=>rfl
  | m+1=>by
    rw [List.range_succ,List.filter_append,List.length_append,mI p m]
    show _=MA _ m+_
    congr 1
    cases h:p m <;> simp [List.filter_cons,h]
def mN (nr:Nat→Nat→Bool) (a b:Nat):Nat:=if a<b∧nr a b=true then 1 else 0
theorem Ah6 (nr:Nat→Nat→Bool) (n:Nat):(YV nr n).length=MA (fun a=>MA (fun b=>MA (fun c=>mN nr a b*(mN nr b c*mN nr a c)) n) n) n:=by
  show ((List.range n).flatMap fun a=>tB nr n a n).length=_
  rw [mH,gE]
  refine ER fun a _=>?_
  show ((List.range n).flatMap fun b=>if a<b∧nr a b=true then tC nr a b n else []).length=_
  rw [mH,gE]
  refine ER fun b _=>?_
  rw [AbL]
  unfold mN
  by_cases h:a<b∧nr a b=true
  · rw [if_pos h,if_pos h,Nat.one_mul]
    unfold tC
    rw [List.length_map,mI]
    refine ER fun c _=>?_
    by_cases h1:b<c∧nr b c=true
    · by_cases h2:nr a c=true
      · have hp:(decide (b<c) && (nr a c && nr b c))=true:=by simp [h1,h2]
        have G:a<c:=by omega
        rw [if_pos hp,if_pos h1,if_pos ⟨G,h2⟩]
      · have hp:¬(decide (b<c) && (nr a c && nr b c))=true:=by simp [h2]
        rw [if_neg hp,if_neg (fun J:a<c∧nr a c=true=>h2 J.2),Nat.mul_zero]
    · have hp:¬(decide (b<c) && (nr a c && nr b c))=true:=by
        intro D
        simp only [Bool.and_eq_true,decide_eq_true_eq] at D
        exact h1 ⟨D.1,D.2.2⟩
      rw [if_neg hp,if_neg h1,Nat.zero_mul]
  · rw [if_neg h,if_neg h,Nat.zero_mul]
    rfl
def iI (T:List AD):List AD:=(FS 5 T T T).filterMap (rO 5)
structure mJ (n:Nat) (nr:Nat→Nat→Bool) (T:List AD):Prop where
  light:Light n T
  val:∀ u j:Nat,u<n→j<n→aT T u j=(mN nr u j:Int)
  one:∀ t∈T,t.Val=1
theorem AiW (h:DW g=0) (hN:g.N=n) (U:n≤30) (hl:g.Edges.length≤1000):mJ n (CE g) (HZ (LJ g)):=by
  obtain ⟨D,Z,Y⟩:=sR hN (PO h)
  have O:=D.light U (by omega)
  refine ⟨O,fun u j hu hj=>?_,fun t W=>by have:=D.one _ (D.mem.1 W); exact this⟩
  rw [D.val O.can,Af9 D.srt]
  have e:=Y (j:Int) (u:Int)
  have J:=gA (g:=g) (a:=(j:Int)) (b:=(u:Int))
  have G:=mF g (u:Int) (j:Int)
  unfold IP at e
  unfold mN CE
  by_cases hh:u<j∧OJ g u j=true
  · rw [if_pos hh,if_pos (e.2 ⟨by omega,J.1 (by rw [←G]; exact hh.2)⟩)]
  · rw [if_neg hh,if_neg]
    intro V
    obtain ⟨q1,q2⟩:=e.1 V
    exact hh ⟨by omega,by rw [G]; exact J.2 q2⟩
variable {nr:Nat→Nat→Bool} {T:List AD}
def aD (nr:Nat→Nat→Bool) (n i k:Nat):Nat:=MA (fun j=>mN nr i j*mN nr j k) n
theorem wX (h:mJ n nr T) {i k:Nat} (hi:i<n) (hk:k<n):aB n (fun j=>aT T i j*aT T j k)=(aD nr n i k:Int):=by
  unfold aD
  rw [←wQ]
  refine mC fun j D=>?_
  rw [h.val i j hi D,h.val j k D hk,Int.natCast_mul]
theorem AfI (a b:Nat):mN nr a b≤1:=by unfold mN; split <;> omega
theorem zV (i k:Nat):∀ m,MA (fun j=>mN nr i j*mN nr j k) m≤m
  | 0=>by simp [MA]
  | m+1=>by
    show MA _ m+mN nr i m*mN nr m k≤m+1
    have:=zV i k m
    have:mN nr i m*mN nr m k≤1*1:=Nat.mul_le_mul (AfI _ _) (AfI _ _)
    omega
def AcX (nr:Nat→Nat→Bool) (n:Nat) (t:AD):Nat:=aD nr n t.Row.toNat t.Col.toNat
theorem zW (h:mJ n nr T) {t:AD} (D:t∈T):∃ i k:Nat,i<n∧k<n∧t.Row=i∧t.Col=k:=by
  have:=h.light.can.inn t D
  unfold ZZ at this
  exact ⟨t.Row.toNat,t.Col.toNat,by omega,by omega,by omega,by omega⟩
theorem wY (h:mJ n nr T) (hn:n≤30):WM 5 n n (FS 5 T T T)=(BM n n (iI T),0)∧Canon n n (iI T)∧∀ t∈iI T,FL t.Val:=by
  have W:=h.light.can
  have Z:Ab4 n n (FS 5 T T T):=jR (ra:=(n:Int)) (ca:=n) (rb:=n) (cb:=n) W
  have G:Canon n n (iI T):=by
    refine ⟨W.r0,W.r1,W.c0,W.c1,?_,?_,fun t U=>?_⟩
    · have D:=Z.len
      have J:(iI T).length≤(FS 5 T T T).length:=List.length_filterMap_le _ _
      omega
    · refine List.Pairwise.filterMap _ (fun a b hab c O d hd=>?_) Z.inc
      have D:=zL O
      have J:=zL hd
      show NK (c.Row,c.Col) (d.Row,d.Col)
      rw [D.1,D.2,J.1,J.2]; exact hab
    · obtain ⟨c,O,he⟩:=List.mem_filterMap.1 U
      have D:=zL he
      have J:=Z.inn c O
      unfold ZZ
      rw [D.1,D.2]; exact ⟨J.1.1,J.1.2,J.2.1,J.2.2⟩
  refine ⟨?_,G,fun t U=>?_⟩
  · unfold WM
    rw [if_pos]
    · exact rG G rP (by omega)
    · rw [List.all_eq_true]
      intro c O
      obtain ⟨t,U,V⟩:=List.mem_filterMap.1 O
      obtain ⟨i,k,hi,hk,e1,e2⟩:=zW h U
      unfold IA at V
      obtain ⟨w,Y,hcw⟩:=Option.map_eq_some_iff.1 V
      subst hcw
      rw [e1,e2] at Y
      have hI:FL (aB n fun j=>aT T i j*aT T j k):=by rw [wX h hi hk]; have:=zV (nr:=nr) i k n; unfold aD FL; omega
      rcases wP h.light i k with ⟨D,_⟩ | D
      · rw [D] at Y; cases Y
      · rw [D] at Y; cases Y
        show (JC (OR _)).2=true
        rw [eI hI]
  · exact rP t U
theorem qB (h:mJ n nr T) (hn:n≤30):∀ M:List AD,(∀ t∈M,t∈T)→(((M.filterMap (IA 5 T T)).filterMap (rO 5)).map fun t=>t.Val).sum=((M.map (AcX nr n)).sum:Int)
  | [],_=>rfl
  | t :: M,hm=>by
    have ih:=qB h hn M fun x Z=>hm x (List.mem_cons_of_mem _ Z)
    obtain ⟨i,k,hi,hk,J,G⟩:=zW h (hm t List.mem_cons_self)
    have Y:AcX nr n t=aD nr n i k:=by unfold AcX; rw [J,G]; rfl
    have W:aD nr n i k≤n:=zV i k n
    have O:FL (aD nr n i k:Int):=by unfold FL; omega
    rw [List.map_cons,List.sum_cons,Y,Int.natCast_add,←ih]
    have U:=wX h hi hk
    rcases wP h.light i k with ⟨D,h2⟩ | D
    · have:IA 5 T T t=none:=by unfold IA; rw [J,G,D]; rfl
      rw [List.filterMap_cons_none this]
      rw [U] at h2
      omega
    · rw [U] at D
      have V:IA 5 T T t=some ⟨t.Row,t.Col,OR (aD nr n i k:Int)⟩:=by unfold IA; rw [J,G,D]; rfl
      rw [List.filterMap_cons_some V]
      by_cases h0:aD nr n i k=0
      · have:rO 5 (⟨t.Row,t.Col,OR (aD nr n i k:Int)⟩:AM)=none:=by
          unfold rO
          dsimp only
          rw [eI O]
          dsimp only
          rw [if_neg]
          rw [h0]; intro h; exact h rfl
        rw [List.filterMap_cons_none this,h0]; simp
      · have:rO 5 (⟨t.Row,t.Col,OR (aD nr n i k:Int)⟩:AM)=some ⟨t.Row,t.Col,(aD nr n i k:Int)⟩:=by
          unfold rO
          dsimp only
          rw [eI O]
          dsimp only
          rw [if_pos]
          show (aD nr n i k:Int)≠0
          omega
        rw [List.filterMap_cons_some this,List.map_cons,List.sum_cons]
theorem wZ:∀ (l:List AD) (z:Int),(∀ t∈l,FL t.Val)→l.foldl (fun w u=>EK 5 w (LI u.Val)) (OR z)=OR (z+(l.map fun t=>t.Val).sum)
  | [],z,_=>by simp
  | t :: l,z,h=>by
    rw [List.foldl_cons,X7 (h t (by simp)),SA,wZ l _ fun x D=>h x (by simp [D]),List.map_cons,List.sum_cons,Int.add_assoc]
theorem Ah7 {X:List AD} (h:∀ t∈X,FL t.Val) (D:FL (X.map fun t=>t.Val).sum):Ae9 5 X=((X.map fun t=>t.Val).sum,0):=by
  unfold Ae9
  rw [if_neg (by omega)]
  match X,h,D with
  | [],_,_=>rfl
  | t :: l,h,D=>
    dsimp only
    rw [X7 (h t (by simp)),wZ l _ fun x G=>h x (by simp [G])]
    rw [List.map_cons,List.sum_cons] at D ⊢
    rw [eI D]
    rfl
theorem zX (h:mJ n nr T) (hn:n≤30):Ae9 5 (iI T)=(((YV nr n).length:Int),0):=by
  have hv:((iI T).map fun t=>t.Val).sum=((T.map (AcX nr n)).sum:Int):=qB h hn T fun t O=>O
  have hc:=h.light.can
  have W:(T.map (AcX nr n)).sum=((T.map key).map fun q=>aD nr n q.1.toNat q.2.toNat).sum:=by rw [List.map_map]; rfl
  have hnd:(T.map key).Nodup:=by
    rw [List.nodup_iff_pairwise_ne,List.pairwise_map]
    exact hc.srt.imp fun {a b} hab e=>by
      have:NK (key a) (key b):=hab
      rw [e] at this
      exact FC _ this
  have hin:∀ q∈T.map key,∃ f t:Nat,f<n∧t<n∧q=((f:Int),(t:Int)):=fun q hq=>by
    obtain ⟨t,O,rfl⟩:=List.mem_map.1 hq
    obtain ⟨i,k,hi,hk,e1,e2⟩:=zW h O
    exact ⟨i,k,hi,hk,by unfold key; rw [e1,e2]⟩
  have V:=wM (n:=n) (fun i k=>aD nr n i k) (T.map key) hnd hin
  have U:∀ i k:Nat,i<n→k<n→((((i:Int),(k:Int))∈T.map key)↔mN nr i k=1):=fun i k hi hk=>by
    have D:=h.val i k hi hk
    unfold aT at D
    constructor
    · intro Y
      obtain ⟨t,O,J⟩:=List.mem_map.1 Y
      unfold key at J
      simp only [Prod.mk.injEq] at J
      have hm2:(⟨(i:Int),(k:Int),t.Val⟩:AD)∈T:=by rw [←J.1,←J.2]; exact O
      rw [(WN hc (by omega)).2 hm2] at D
      have h1:=h.one t O
      rw [h1] at D
      have:gO (some 1)=1:=rfl
      omega
    · intro Y
      cases e:XS (fJ T (i:Int)) (k:Int) with
      | none=>
        rw [e] at D
        have:gO none=0:=rfl
        omega
      | some x=>exact List.mem_map.2 ⟨_,(WN hc (by omega)).1 e,rfl⟩
  have G:(T.map (AcX nr n)).sum=(YV nr n).length:=by
    rw [W,V,Ah6]
    refine ER fun a ha=>?_
    rw [wW (fun b c=>mN nr a b*(mN nr b c*mN nr a c))]
    refine ER fun c Z=>?_
    have Y:=U a c ha Z
    have hle:=AfI (nr:=nr) a c
    by_cases e:mN nr a c=1
    · rw [if_pos (Y.2 e)]
      unfold aD
      refine ER fun b _=>?_
      rw [e,Nat.mul_one]
    · rw [if_neg fun hh=>e (Y.1 hh)]
      have e0:mN nr a c=0:=by omega
      have:MA (fun b=>mN nr a b*(mN nr b c*mN nr a c)) n=MA (fun _=>0) n:=ER fun b _=>by rw [e0]; simp
      rw [this,JO]; simp
  have hlen:=WQ (nr:=nr) (n:=n) n
  have hb:=ZX hn (Nat.le_refl n)
  rw [Ah7 (wY h hn).2.2 (by rw [hv,G]; unfold FL; show _∧((aC nr n n).length:Int)≤_; omega),hv,G]
set_option maxHeartbeats 2000000
variable {n:Nat} {g:AK}
def aY (r:Int):Bool:=decide (1≤r∧r≤8)
theorem xA {r:Int} {Q:Bool→Prop} (D:Q (aY r)):YD r Q:=by
  unfold YD
  unfold aY at D
  refine AB (fun h=>?_) (fun h=>?_)
  · simpa [h] using D
  · simpa [h] using D
def zP:BI:={ Ring:=0,A:=({ Rows:=0,Cols:=0,Start:=([]:List Int),Col:=([]:List Int),Val:=([]:List Int) }:Rows),B:=({ Rows:=0,Cols:=0,Start:=([]:List Int),Col:=([]:List Int),Val:=([]:List Int) }:Rows),Mask:=({ Rows:=0,Cols:=0,Start:=([]:List Int),Col:=([]:List Int),Val:=([]:List Int) }:Rows),R:=0,C:=0,Room:=0 }
structure SmallG (g:AK) (n:Nat):Prop where
  right:DW g=0
  N:g.N=n
  n30:n≤30
  len:g.Edges.length≤1000
theorem SmallG.down (h:SmallG g n):mJ n (CE g) (HZ (LJ g)):=AiW h.right h.N h.n30 h.len
theorem SmallG.graph (h:SmallG g n):X6 (LJ g)=(BM n n (HZ (LJ g)),0):=by
  obtain ⟨D,G,_⟩:=sR h.N (PO h.right)
  have:=h.len
  have:=h.n30
  unfold X6
  rw [if_pos (D.right (by omega) (by omega)),D.N]
def AhN (n:Nat) (T:List AD) (r c:Int):BI:=⟨5,BM n n T,BM n n T,BM n n T,r,c,4⟩
def WS (g:AK) (n:Nat) (r c:Int):BI×Int:=if aY r=true∧aY c=true then (AhN n (HZ (LJ g)) r c,0) else (zP,3)
theorem UI (h:SmallG g n) {r c:Int} {Q:BI×Int→Prop} (D:Q (WS g n r c)):HG g r c Q:=by
  unfold HG
  refine GO ?_
  rw [h.right]
  unfold WS at D
  refine AO (by simp) (xA (CP (fun G=>?_) (fun G=>xA (CP (fun J=>?_) (fun J=>AbF h.right (lE ?_))))))
  · rw [if_neg (by rw [G]; simp)] at D; exact D
  · rw [if_neg (by rw [J]; simp)] at D; exact D
  · rw [if_pos ⟨G,J⟩] at D
    rw [h.graph]
    refine lE ?_
    rw [h.graph]
    refine lE ?_
    rw [h.graph]
    exact D
theorem XQ (h:DW g≠0) {r c:Int} {Q:BI×Int→Prop} (D:Q (zP,DW g)):HG g r c Q:=by
  unfold HG
  exact GO (AX (by simpa using h) D)
theorem mK (h:SmallG g n) {r c:Int} {Q:BI×Int→Prop} (G:Q (WS g n r c)):JL g r c Q:=by
  unfold JL
  refine EM ?_
  rw [h.right]
  unfold WS aY at G
  have D:¬(1≤r∧r≤8∧1≤c∧c≤8)→Q (zP,3):=fun hn=>by
    rwa [if_neg (by simp only [decide_eq_true_eq]; omega)] at G
  have J:=PO h.right
  have O:=fY J
  have U:=mE O.1
  have hl:=h.len
  refine AO (by simp) (AB (fun Y=>D (by omega)) (fun Y=>AB (fun Z=>D (by omega)) (fun Z=>AB (fun W=>D (by omega)) (fun W=>AB (fun V=>D (by omega)) (fun V=>?_)))))
  rw [if_pos (by simp only [decide_eq_true_eq]; omega)] at G
  refine wN (by omega) (ES J) (sQ (by omega) (ES O.1) (sN (by omega) (sO ?_)))
  show Q ((⟨5,(X6 (LJ g)).1,(X6 (LJ g)).1,(X6 (LJ g)).1,r,c,4⟩:BI),0)
  rw [h.graph]
  exact G
theorem iU (h:DW g≠0) {r c:Int} {Q:BI×Int→Prop} (D:Q (zP,DW g)):JL g r c Q:=by
  unfold JL
  exact EM (AX (by simpa using h) D)
def xB (g:AK) (n:Nat) (r c:Int):Int×Int:=if aY r=true∧aY c=true then (((YV (CE g) n).length:Int),0) else (0,3)
theorem bS (h:SmallG g n) {r c:Int} {Q:Int×Int→Prop} (J:Q (xB g n r c)):RY g r c Q:=by
  unfold RY
  refine UI h ?_
  unfold WS
  unfold xB at J
  by_cases hs:aY r=true∧aY c=true
  · rw [if_pos hs] at J ⊢
    refine AO rfl ?_
    unfold aY at hs
    simp only [decide_eq_true_eq] at hs
    obtain ⟨R,rfl⟩:∃ R:Nat,r=R:=⟨r.toNat,by omega⟩
    obtain ⟨C,rfl⟩:∃ C:Nat,c=C:=⟨c.toNat,by omega⟩
    have D:=h.down
    generalize HZ (LJ g)=T at D ⊢
    have G:∀ t∈T,FL t.Val:=fun t U=>D.light.int U
    have O:DOk0 ⟨5,n,n,n,T,T,T,R,C,4,[]⟩:=
      ⟨by show (1:Int)≤5∧(5:Int)≤5; omega,D.light.can,D.light.can,D.light.can,G,G,G,by show 1≤R∧R≤8; omega,by show 1≤C∧C≤8; omega,by show 1≤4∧4≤64; omega⟩
    show QO (Data.p ⟨5,n,n,n,T,T,T,R,C,4,[]⟩) _
    refine Af4 O ?_
    show SR (Data.p ⟨5,n,n,n,T,T,T,R,C,4,[]⟩) _ _ _
    refine zG O ?_
    obtain ⟨W,p2,p3⟩:=wY D h.n30
    have V:WM 5 n n (fV ⟨5,n,n,n,T,T,T,R,C,4,[]⟩)=(BM n n (iI (T)),0):=W
    show AR ((WM 5 n n (fV ⟨5,n,n,n,T,T,T,R,C,4,[]⟩)).2 != 0) _ (TR 5 (WM 5 n n (fV ⟨5,n,n,n,T,T,T,R,C,4,[]⟩)).1 _)
    rw [V]
    refine AO (by simp) (nQ p2 p3 ?_)
    rw [zX D h.n30]
    exact J
  · rw [if_neg hs] at J ⊢
    exact AX (by simp) J
theorem xC (h:DW g≠0) {r c:Int} {Q:Int×Int→Prop} (D:Q (0,DW g)):RY g r c Q:=by
  unfold RY
  exact XQ h (AX (by simpa using h) D)
def GT:AK:={ N:=4,Edges:=([({ From:=0,To:=1,W:=9 }:AL),({ From:=2,To:=1,W:=0 }:AL),({ From:=0,To:=2,W:=1 }:AL),({ From:=3,To:=3,W:=1 }:AL)]:List AL) }
theorem OL:SmallG GT 4:=⟨by decide,rfl,by omega,by decide⟩
theorem zY:YV (CE GT) 4=[(0,1,2)]:=by decide
theorem AiX:(HZ (LJ GT)).length=3:=by decide
theorem PP {Q:Bool→Prop} (G:Q true):MP Q:=by
  unfold MP
  refine bS (g:=GT) OL ?_
  show RY GT 0 1 _
  refine bS (g:=GT) OL ?_
  show HG GT 1 2 _
  refine UI (g:=GT) OL ?_
  have O:xB GT 4 2 2=(1,0):=by unfold xB; rw [if_pos (by decide),zY]; rfl
  have J:xB GT 4 0 1=(0,3):=by unfold xB; rw [if_neg (by decide)]
  have h:WS GT 4 1 2=(AhN 4 (HZ (LJ GT)) 1 2,0):=by unfold WS; rw [if_pos (by decide)]
  rw [O,J,h]
  refine AX rfl (AX rfl (AX rfl (AX rfl (AX ?_ (AX rfl ?_)))))
  · show (((HZ (LJ GT)).map (·.Val)).length:Int)==3
    rw [List.length_map,AiX]; rfl
  · show WG GT _
    refine iH OL.right OL.N OL.n30 ?_
    rw [zY]
    refine sW (by simp) (AX rfl ?_)
    show YE GT _
    refine qA OL.right OL.N OL.n30 ?_
    rw [zY]
    have D:ofT 4 [(0,1,2)]=[1,1,1,0]:=by decide
    rw [D]
    exact gD (by simp) G
theorem zZ (nr:Nat→Nat→Bool) (h:n≤30):(YV nr n).length≤27000:=by
  have h1:=WQ (nr:=nr) (n:=n) n
  have h2:=ZX h (Nat.le_refl n)
  show (aC nr n n).length≤_
  omega
theorem xD {g:AK} (h:DW g=0) (hl:¬(40:Int)<g.Edges.length) (hn:¬(30:Int)<g.N):∃ n:Nat,SmallG g n:=by
  have:=(GJ h).1
  exact ⟨g.N.toNat,h,by omega,by omega,by omega⟩
theorem xE:small zP.A∧small zP.B∧small zP.Mask:=by unfold small zP; simp
theorem qC {p q:BI} {k:Bool→Prop} (h:p=q) (V:small p.A∧small p.B∧small p.Mask) (hk:k true) :
    FM (fun (D:Bool→Prop)=>AR (p.Ring==q.Ring) (IX p.A q.A fun G=>AR G (IX p.B q.B fun O=>AR O (IX p.Mask q.Mask fun J=>AR J (AR (p.R==q.R) (AR (p.C==q.C) (D (p.Room==q.Room)) (D false)) (D false)) (D false)) (D false)) (D false)) (D false)) k:=by
  subst h
  refine DP (fun b=>b=true) (fun b W=>by rw [W]; exact hk) fun k' U=>?_
  refine AX (by simp) (YI V.1 (AX (by simp) (YI V.2.1 (AX (by simp) (YI V.2.2 (AX (by simp) (AX (by simp) (AX (by simp) (U _ (by simp))))))))))
theorem xF (h:SmallG g n) (r c:Int):small (WS g n r c).1.A∧small (WS g n r c).1.B∧small (WS g n r c).1.Mask:=by
  unfold WS
  have:=h.down.light.can.sml
  split
  · exact ⟨this,this,this⟩
  · exact xE
theorem AfJ (r c:Int):(xB g n r c).2=(WS g n r c).2:=by
  unfold xB WS
  split <;> rfl
theorem xG (a0:AK) (a1 a2:Int):TV a0 a1 a2 (fun r=>r=true):=by
  unfold TV
  refine DP (fun _=>DW a0≠0∨∃ n,SmallG a0 n) (fun _ G=>?_) fun k hk=>?_
  rotate_left
  · by_cases hr:DW a0=0
    · obtain ⟨h1,V,h3,_,_⟩:=GJ hr
      refine AB (fun _=>AB (fun _=>PP rfl) (fun h=>absurd (by omega) h)) (fun U=>AB (fun _=>AB (fun _=>PP rfl) (fun h=>absurd V h)) (fun W=>hk () (.inr (xD hr U W))))
    · refine AB (fun _=>AB (fun _=>PP rfl) (fun _=>AB (fun _=>AB (fun _=>PP rfl) (fun _=>hk () (.inl hr))) (fun _=>hk () (.inl hr)))) (fun _=>AB (fun _=>AB (fun _=>PP rfl) (fun _=>hk () (.inl hr))) (fun _=>hk () (.inl hr)))
  · rcases G with G | ⟨n,D⟩
    · refine XQ G (iU G (qC rfl xE (xC G (PP (AX rfl (AX (by simp) (AX rfl (AX (by simp) (sV G (sU G (sW (by simp) (AX rfl (zT G (zU G (gD (by simp) rfl)))))))))))))))
    · have J:=zZ (CE a0) D.n30
      have O:(ofT n (YV (CE a0) n)).length=n:=by unfold ofT; rw [mG]; simp
      have hn:=D.n30
      refine UI D (mK D (qC rfl (xF D a1 a2) (bS D (PP (AX rfl (AX (by simp) (AX rfl (AX (by rw [AfJ]; simp) ?_))))))))
      exact iH D.right D.N D.n30 (iF D.right D.N D.n30 (sW (by omega) (AX rfl (qA D.right D.N D.n30 (wV D.right D.N D.n30 (gD (by omega) rfl))))))
end Go.Proofs.YtbohadngdkjljaaGreat
