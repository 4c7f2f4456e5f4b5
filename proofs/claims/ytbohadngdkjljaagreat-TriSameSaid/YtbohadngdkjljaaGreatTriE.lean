import Derived.Test.YtbohadngdkjljaaGreatTriC
namespace Go.Proofs.YtbohadngdkjljaaGreat
open Go Go.Fw
set_option linter.unusedVariables false
set_option linter.unusedSimpArgs false
variable {n:Nat} {g:AM}
theorem zD (c:Nat) (f:Nat→Nat):∀ m,LH (fun i=>c*f i) m=c*LH f m
  | 0=>rfl
  | m+1=>by show LH _ m+c*f m=c*(LH f m+f m); rw [zD c f m,Nat.mul_add]
theorem tY (f:Nat→Nat→Nat) (a:Nat):∀ b,LH (fun i=>LH (fun j=>f i j) a) b=LH (fun j=>LH (fun i=>f i j) b) a
  | 0=>by
    show 0=LH (fun _=>0) a
    rw [JG]; simp
  | b+1=>by
    show LH _ b+LH (fun j=>f b j) a=LH (fun j=>LH (fun i=>f i j) b+f b j) a
    rw [tY f a b,yU]
theorem kB {α β:Type} (f:α→List β):∀ l:List α,(l.flatMap f).length=(l.map fun x=>(f x).length).sum
  | []=>rfl
  | x :: l=>by rw [List.flatMap_cons,List.length_append,kB f l]; rfl
theorem eN (f:Nat→Nat):∀ m,((List.range m).map f).sum=LH f m
  | 0=>rfl
  | m+1=>by rw [List.range_succ,List.map_append,List.sum_append,eN f m]; simp [LH]
theorem kC (p:Nat→Bool):∀ m,((List.range m).filter p).length=LH (fun i=>if p i=true then 1 else 0) m
  | 0=>rfl
  | m+1=>by
    rw [List.range_succ,List.filter_append,List.length_append,kC p m]
    show _=LH _ m+_
    congr 1
    cases h:p m <;> simp [List.filter_cons,h]
def mN (nr:Nat→Nat→Bool) (a b:Nat):Nat:=if a<b∧nr a b=true then 1 else 0
theorem AfK (nr:Nat→Nat→Bool) (n:Nat):(gB nr n).length=LH (fun a=>LH (fun b=>LH (fun c=>mN nr a b*(mN nr b c*mN nr a c)) n) n) n:=by
  show ((List.range n).flatMap fun a=>tB nr n a n).length=_
  rw [kB,eN]
  refine EF fun a _=>?_
  show ((List.range n).flatMap fun b=>if a<b∧nr a b=true then tC nr a b n else []).length=_
  rw [kB,eN]
  refine EF fun b _=>?_
  rw [zD]
  unfold mN
  by_cases h:a<b∧nr a b=true
  · rw [if_pos h,if_pos h,Nat.one_mul]
    unfold tC
    rw [List.length_map,kC]
    refine EF fun c _=>?_
    by_cases h1:b<c∧nr b c=true
    · by_cases h2:nr a c=true
      · have hp:(decide (b<c) && (nr a c && nr b c))=true:=by simp [h1,h2]
        have hac:a<c:=by omega
        rw [if_pos hp,if_pos h1,if_pos ⟨hac,h2⟩]
      · have hp:¬(decide (b<c) && (nr a c && nr b c))=true:=by simp [h2]
        rw [if_neg hp,if_neg (fun hq:a<c∧nr a c=true=>h2 hq.2),Nat.mul_zero]
    · have hp:¬(decide (b<c) && (nr a c && nr b c))=true:=by
        intro h3
        simp only [Bool.and_eq_true,decide_eq_true_eq] at h3
        exact h1 ⟨h3.1,h3.2.2⟩
      rw [if_neg hp,if_neg h1,Nat.zero_mul]
  · rw [if_neg h,if_neg h,Nat.zero_mul]
    rfl
def fP (T:List AD):List AD:=(FB 5 T T T).filterMap (pA 5)
structure kD (n:Nat) (nr:Nat→Nat→Bool) (T:List AD):Prop where
  light:Light n T
  val:∀ u j:Nat,u<n→j<n→aT T u j=(mN nr u j:Int)
  one:∀ t∈T,t.Val=1
theorem Ah4 (h:IZ g=0) (hN:g.N=n) (hn:n≤30) (hl:g.Edges.length≤1000):kD n (DU g) (DE (ER g)):=by
  obtain ⟨hP,hPl,hE⟩:=pU hN (OR h)
  have hL:=hP.light hn (by omega)
  refine ⟨hL,fun u j hu hj=>?_,fun t ht=>by have:=hP.one _ (hP.mem.1 ht); exact this⟩
  rw [hP.val hL.can,AdJ hP.srt]
  have e:=hE (j:Int) (u:Int)
  have e2:=eL (g:=g) (a:=(j:Int)) (b:=(u:Int))
  have e3:=kA g (u:Int) (j:Int)
  unfold II at e
  unfold mN DU
  by_cases hh:u<j∧QL g u j=true
  · rw [if_pos hh,if_pos (e.2 ⟨by omega,e2.1 (by rw [←e3]; exact hh.2)⟩)]
  · rw [if_neg hh,if_neg]
    intro hc
    obtain ⟨q1,q2⟩:=e.1 hc
    exact hh ⟨by omega,by rw [e3]; exact e2.2 q2⟩
variable {nr:Nat→Nat→Bool} {T:List AD}
def YS (nr:Nat→Nat→Bool) (n i k:Nat):Nat:=LH (fun j=>mN nr i j*mN nr j k) n
theorem tZ (h:kD n nr T) {i k:Nat} (hi:i<n) (hk:k<n):TI n (fun j=>aT T i j*aT T j k)=(YS nr n i k:Int):=by
  unfold YS
  rw [←tT]
  refine jX fun j hj=>?_
  rw [h.val i j hi hj,h.val j k hj hk,Int.natCast_mul]
theorem AdU (a b:Nat):mN nr a b≤1:=by unfold mN; split <;> omega
theorem wO (i k:Nat):∀ m,LH (fun j=>mN nr i j*mN nr j k) m≤m
  | 0=>by simp [LH]
  | m+1=>by
    show LH _ m+mN nr i m*mN nr m k≤m+1
    have:=wO i k m
    have:mN nr i m*mN nr m k≤1*1:=Nat.mul_le_mul (AdU _ _) (AdU _ _)
    omega
def Ab1 (nr:Nat→Nat→Bool) (n:Nat) (t:AD):Nat:=YS nr n t.Row.toNat t.Col.toNat
theorem wP (h:kD n nr T) {t:AD} (ht:t∈T):∃ i k:Nat,i<n∧k<n∧t.Row=i∧t.Col=k:=by
  have:=h.light.can.inn t ht
  unfold ZB at this
  exact ⟨t.Row.toNat,t.Col.toNat,by omega,by omega,by omega,by omega⟩
theorem uA (h:kD n nr T) (hn:n≤30):VT 5 n n (FB 5 T T T)=(BO n n (fP T),0)∧Canon n n (fP T)∧∀ t∈fP T,FR t.Val:=by
  have hM:=h.light.can
  have hP:yJ n n (FB 5 T T T):=gW (ra:=(n:Int)) (ca:=n) (rb:=n) (cb:=n) hM
  have hcan:Canon n n (fP T):=by
    refine ⟨hM.r0,hM.r1,hM.c0,hM.c1,?_,?_,fun t ht=>?_⟩
    · have h1:=hP.len
      have h2:(fP T).length≤(FB 5 T T T).length:=List.length_filterMap_le _ _
      omega
    · refine List.Pairwise.filterMap _ (fun a b hab c hc d hd=>?_) hP.inc
      have h1:=wK hc
      have h2:=wK hd
      show TT (c.Row,c.Col) (d.Row,d.Col)
      rw [h1.1,h1.2,h2.1,h2.2]; exact hab
    · obtain ⟨c,hc,he⟩:=List.mem_filterMap.1 ht
      have h1:=wK he
      have h2:=hP.inn c hc
      unfold ZB
      rw [h1.1,h1.2]; exact ⟨h2.1.1,h2.1.2,h2.2.1,h2.2.2⟩
  refine ⟨?_,hcan,fun t ht=>?_⟩
  · unfold VT
    rw [if_pos]
    · exact oS hcan pB (by omega)
    · rw [List.all_eq_true]
      intro c hc
      obtain ⟨t,ht,hto⟩:=List.mem_filterMap.1 hc
      obtain ⟨i,k,hi,hk,e1,e2⟩:=wP h ht
      unfold HV at hto
      obtain ⟨w,hw,hcw⟩:=Option.map_eq_some_iff.1 hto
      subst hcw
      rw [e1,e2] at hw
      have hI:FR (TI n fun j=>aT T i j*aT T j k):=by rw [tZ h hi hk]; have:=wO (nr:=nr) i k n; unfold YS FR; omega
      rcases tS h.light i k with ⟨h1,_⟩ | h1
      · rw [h1] at hw; cases hw
      · rw [h1] at hw; cases hw
        show (KV (NV _)).2=true
        rw [cS hI]
  · exact pB t ht
theorem nH (h:kD n nr T) (hn:n≤30):∀ M:List AD,(∀ t∈M,t∈T)→(((M.filterMap (HV 5 T T)).filterMap (pA 5)).map fun t=>t.Val).sum=((M.map (Ab1 nr n)).sum:Int)
  | [],_=>rfl
  | t :: M,hm=>by
    have ih:=nH h hn M fun x hx=>hm x (List.mem_cons_of_mem _ hx)
    obtain ⟨i,k,hi,hk,e1,e2⟩:=wP h (hm t List.mem_cons_self)
    have hv:Ab1 nr n t=YS nr n i k:=by unfold Ab1; rw [e1,e2]; rfl
    have hwb:YS nr n i k≤n:=wO i k n
    have hI:FR (YS nr n i k:Int):=by unfold FR; omega
    rw [List.map_cons,List.sum_cons,hv,Int.natCast_add,←ih]
    have hs:=tZ h hi hk
    rcases tS h.light i k with ⟨h1,h2⟩ | h1
    · have:HV 5 T T t=none:=by unfold HV; rw [e1,e2,h1]; rfl
      rw [List.filterMap_cons_none this]
      rw [hs] at h2
      omega
    · rw [hs] at h1
      have hc:HV 5 T T t=some ⟨t.Row,t.Col,NV (YS nr n i k:Int)⟩:=by unfold HV; rw [e1,e2,h1]; rfl
      rw [List.filterMap_cons_some hc]
      by_cases h0:YS nr n i k=0
      · have:pA 5 (⟨t.Row,t.Col,NV (YS nr n i k:Int)⟩:AJ)=none:=by
          unfold pA
          dsimp only
          rw [cS hI]
          dsimp only
          rw [if_neg]
          rw [h0]; intro h; exact h rfl
        rw [List.filterMap_cons_none this,h0]; simp
      · have:pA 5 (⟨t.Row,t.Col,NV (YS nr n i k:Int)⟩:AJ)=some ⟨t.Row,t.Col,(YS nr n i k:Int)⟩:=by
          unfold pA
          dsimp only
          rw [cS hI]
          dsimp only
          rw [if_pos]
          show (YS nr n i k:Int)≠0
          omega
        rw [List.filterMap_cons_some this,List.map_cons,List.sum_cons]
theorem uB:∀ (l:List AD) (z:Int),(∀ t∈l,FR t.Val)→l.foldl (fun w u=>GG 5 w (PY u.Val)) (NV z)=NV (z+(l.map fun t=>t.Val).sum)
  | [],z,_=>by simp
  | t :: l,z,h=>by
    rw [List.foldl_cons,WF (h t (by simp)),QZ,uB l _ fun x hx=>h x (by simp [hx]),List.map_cons,List.sum_cons,Int.add_assoc]
theorem AfL {X:List AD} (h:∀ t∈X,FR t.Val) (hs:FR (X.map fun t=>t.Val).sum):AcH 5 X=((X.map fun t=>t.Val).sum,0):=by
  unfold AcH
  rw [if_neg (by omega)]
  match X,h,hs with
  | [],_,_=>rfl
  | t :: l,h,hs=>
    dsimp only
    rw [WF (h t (by simp)),uB l _ fun x hx=>h x (by simp [hx])]
    rw [List.map_cons,List.sum_cons] at hs ⊢
    rw [cS hs]
    rfl
theorem wQ (h:kD n nr T) (hn:n≤30):AcH 5 (fP T)=(((gB nr n).length:Int),0):=by
  have hv:((fP T).map fun t=>t.Val).sum=((T.map (Ab1 nr n)).sum:Int):=nH h hn T fun t ht=>ht
  have hc:=h.light.can
  have hkey:(T.map (Ab1 nr n)).sum=((T.map key).map fun q=>YS nr n q.1.toNat q.2.toNat).sum:=by rw [List.map_map]; rfl
  have hnd:(T.map key).Nodup:=by
    rw [List.nodup_iff_pairwise_ne,List.pairwise_map]
    exact hc.srt.imp fun {a b} hab e=>by
      have:TT (key a) (key b):=hab
      rw [e] at this
      exact GH _ this
  have hin:∀ q∈T.map key,∃ f t:Nat,f<n∧t<n∧q=((f:Int),(t:Int)):=fun q hq=>by
    obtain ⟨t,ht,rfl⟩:=List.mem_map.1 hq
    obtain ⟨i,k,hi,hk,e1,e2⟩:=wP h ht
    exact ⟨i,k,hi,hk,by unfold key; rw [e1,e2]⟩
  have hsum:=tP (n:=n) (fun i k=>YS nr n i k) (T.map key) hnd hin
  have hmem:∀ i k:Nat,i<n→k<n→((((i:Int),(k:Int))∈T.map key)↔mN nr i k=1):=fun i k hi hk=>by
    have hval:=h.val i k hi hk
    unfold aT at hval
    constructor
    · intro hm
      obtain ⟨t,ht,hk2⟩:=List.mem_map.1 hm
      unfold key at hk2
      simp only [Prod.mk.injEq] at hk2
      have hm2:(⟨(i:Int),(k:Int),t.Val⟩:AD)∈T:=by rw [←hk2.1,←hk2.2]; exact ht
      rw [(TD hc (by omega)).2 hm2] at hval
      have h1:=h.one t ht
      rw [h1] at hval
      have:gO (some 1)=1:=rfl
      omega
    · intro hm
      cases e:WU (cE T (i:Int)) (k:Int) with
      | none=>
        rw [e] at hval
        have:gO none=0:=rfl
        omega
      | some x=>exact List.mem_map.2 ⟨_,(TD hc (by omega)).1 e,rfl⟩
  have hcount:(T.map (Ab1 nr n)).sum=(gB nr n).length:=by
    rw [hkey,hsum,AfK]
    refine EF fun a ha=>?_
    rw [tY (fun b c=>mN nr a b*(mN nr b c*mN nr a c))]
    refine EF fun c hc2=>?_
    have hm:=hmem a c ha hc2
    have hle:=AdU (nr:=nr) a c
    by_cases e:mN nr a c=1
    · rw [if_pos (hm.2 e)]
      unfold YS
      refine EF fun b _=>?_
      rw [e,Nat.mul_one]
    · rw [if_neg fun hh=>e (hm.1 hh)]
      have e0:mN nr a c=0:=by omega
      have:LH (fun b=>mN nr a b*(mN nr b c*mN nr a c)) n=LH (fun _=>0) n:=EF fun b _=>by rw [e0]; simp
      rw [this,JG]; simp
  have hlen:=cU (nr:=nr) (n:=n) n
  have hb:=pV hn (Nat.le_refl n)
  rw [AfL (uA h hn).2.2 (by rw [hv,hcount]; unfold FR; show _∧((gA nr n n).length:Int)≤_; omega),hv,hcount]
set_option maxHeartbeats 2000000
variable {n:Nat} {g:AM}
def ZH (r:Int):Bool:=decide (1≤r∧r≤8)
theorem uC {r:Int} {Q:Bool→Prop} (hQ:Q (ZH r)):XH r Q:=by
  unfold XH
  unfold ZH at hQ
  refine AC (fun h=>?_) (fun h=>?_)
  · simpa [h] using hQ
  · simpa [h] using hQ
def zP:BQ:={ Ring:=0,A:=({ Rows:=0,Cols:=0,Start:=([]:List Int),Col:=([]:List Int),Val:=([]:List Int) }:Rows),B:=({ Rows:=0,Cols:=0,Start:=([]:List Int),Col:=([]:List Int),Val:=([]:List Int) }:Rows),Mask:=({ Rows:=0,Cols:=0,Start:=([]:List Int),Col:=([]:List Int),Val:=([]:List Int) }:Rows),R:=0,C:=0,Room:=0 }
structure SmallG (g:AM) (n:Nat):Prop where
  right:IZ g=0
  N:g.N=n
  n30:n≤30
  len:g.Edges.length≤1000
theorem SmallG.down (h:SmallG g n):kD n (DU g) (DE (ER g)):=Ah4 h.right h.N h.n30 h.len
theorem SmallG.graph (h:SmallG g n):oQ (ER g)=(BO n n (DE (ER g)),0):=by
  obtain ⟨hP,hPl,_⟩:=pU h.N (OR h.right)
  have:=h.len
  have:=h.n30
  unfold oQ
  rw [if_pos (hP.right (by omega) (by omega)),hP.N]
def AfZ (n:Nat) (T:List AD) (r c:Int):BQ:=⟨5,BO n n T,BO n n T,BO n n T,r,c,4⟩
def uD (g:AM) (n:Nat) (r c:Int):BQ×Int:=if ZH r=true∧ZH c=true then (AfZ n (DE (ER g)) r c,0) else (zP,3)
theorem XT (h:SmallG g n) {r c:Int} {Q:BQ×Int→Prop} (hQ:Q (uD g n r c)):MJ g r c Q:=by
  unfold MJ
  refine NL ?_
  rw [h.right]
  unfold uD at hQ
  refine AN (by simp) (uC (CO (fun h1=>?_) (fun h1=>uC (CO (fun h2=>?_) (fun h2=>yW h.right (jC ?_))))))
  · rw [if_neg (by rw [h1]; simp)] at hQ; exact hQ
  · rw [if_neg (by rw [h2]; simp)] at hQ; exact hQ
  · rw [if_pos ⟨h1,h2⟩] at hQ
    rw [h.graph]
    refine jC ?_
    rw [h.graph]
    refine jC ?_
    rw [h.graph]
    exact hQ
def uE (g:AM) (n:Nat) (r c:Int):Int×Int:=if ZH r=true∧ZH c=true then (((gB (DU g) n).length:Int),0) else (0,3)
theorem WO (h:SmallG g n) {r c:Int} {Q:Int×Int→Prop} (hQ:Q (uE g n r c)):UK g r c Q:=by
  unfold UK
  refine XT h ?_
  unfold uD
  unfold uE at hQ
  by_cases hs:ZH r=true∧ZH c=true
  · rw [if_pos hs] at hQ ⊢
    refine AN rfl ?_
    unfold ZH at hs
    simp only [decide_eq_true_eq] at hs
    obtain ⟨R,rfl⟩:∃ R:Nat,r=R:=⟨r.toNat,by omega⟩
    obtain ⟨C,rfl⟩:∃ C:Nat,c=C:=⟨c.toNat,by omega⟩
    have hD:=h.down
    generalize DE (ER g)=T at hD ⊢
    have hin:∀ t∈T,FR t.Val:=fun t ht=>hD.light.int ht
    have hd:DOk0 ⟨5,n,n,n,T,T,T,R,C,4,[]⟩:=
      ⟨by show (1:Int)≤5∧(5:Int)≤5; omega,hD.light.can,hD.light.can,hD.light.can,hin,hin,hin,by show 1≤R∧R≤8; omega,by show 1≤C∧C≤8; omega,by show 1≤4∧4≤64; omega⟩
    show PM (Data.p ⟨5,n,n,n,T,T,T,R,C,4,[]⟩) _
    refine AdC hd ?_
    show RQ (Data.p ⟨5,n,n,n,T,T,T,R,C,4,[]⟩) _ _ _
    refine wG hd ?_
    obtain ⟨p1,p2,p3⟩:=uA hD h.n30
    have ed:VT 5 n n (eJ ⟨5,n,n,n,T,T,T,R,C,4,[]⟩)=(BO n n (fP (T)),0):=p1
    show AQ ((VT 5 n n (eJ ⟨5,n,n,n,T,T,T,R,C,4,[]⟩)).2 != 0) _ (SQ 5 (VT 5 n n (eJ ⟨5,n,n,n,T,T,T,R,C,4,[]⟩)).1 _)
    rw [ed]
    refine AN (by simp) (lB p2 p3 ?_)
    rw [wQ hD h.n30]
    exact hQ
  · rw [if_neg hs] at hQ ⊢
    exact BC (by simp) hQ
def GT:AM:={ N:=4,Edges:=([({ From:=0,To:=1,W:=9 }:AL),({ From:=2,To:=1,W:=0 }:AL),({ From:=0,To:=2,W:=1 }:AL),({ From:=3,To:=3,W:=1 }:AL)]:List AL) }
theorem NQ:SmallG GT 4:=⟨by decide,rfl,by omega,by decide⟩
theorem wR:gB (DU GT) 4=[(0,1,2)]:=by decide
theorem Ah5:(DE (ER GT)).length=3:=by decide
theorem Ab2 {Q:Bool→Prop} (hQ:Q true):W7 Q:=by
  unfold W7
  refine WO (g:=GT) NQ ?_
  show UK GT 0 1 _
  refine WO (g:=GT) NQ ?_
  show MJ GT 1 2 _
  refine XT (g:=GT) NQ ?_
  have e1:uE GT 4 2 2=(1,0):=by unfold uE; rw [if_pos (by decide),wR]; rfl
  have e2:uE GT 4 0 1=(0,3):=by unfold uE; rw [if_neg (by decide)]
  have e3:uD GT 4 1 2=(AfZ 4 (DE (ER GT)) 1 2,0):=by unfold uD; rw [if_pos (by decide)]
  rw [e1,e2,e3]
  refine BC rfl (BC rfl (BC rfl (BC rfl (BC ?_ (BC rfl ?_)))))
  · show (((DE (ER GT)).map (·.Val)).length:Int)==3
    rw [List.length_map,Ah5]; rfl
  · show VM GT _
    refine XS NQ.right NQ.N NQ.n30 ?_
    rw [wR]
    refine zC (by simp) (BC rfl ?_)
    show iN GT _
    refine AaZ NQ.right NQ.N NQ.n30 ?_
    rw [wR]
    have e4:ofT 4 [(0,1,2)]=[1,1,1,0]:=by decide
    rw [e4]
    exact Ab0 (by simp) hQ
theorem Ab3 {a:KB} {Q:(AM×Int×Int×Int)→Prop} (h:W8 a) (hQ:∀ (g:AM) (n:Nat) (v:Int) (R C:Nat),SmallG g n→n≤23→g.Edges.length≤60→0≤v→v<n→(1≤R∧R≤4)→(1≤C∧C≤4)→Q (g,v,(R:Int),(C:Int))):LR a Q:=by
  unfold LR
  obtain ⟨_,_,hR,hC⟩:=h
  refine AdH fun g hN hl hg=>?_
  obtain ⟨R,r1,r2,re⟩:=yT hR
  obtain ⟨C,c1,c2,ce⟩:=yT hC
  rw [re,ce]
  refine FH (fun s:Int×List AL=>∃ n:Nat,1≤n∧s.1=n∧SmallG ⟨s.1,s.2⟩ n∧n≤23∧s.2.length≤60) ?_ ?_
  · rintro ⟨N,E⟩ ⟨n,h1,h2,h3,h4,h5⟩
    simp only at h2 h3 h5 ⊢
    refine YP (fun h=>by omega) fun _ v v0 v1=>hQ ⟨N,E⟩ n v R C h3 h4 h5 v0 (by omega) ⟨r1,r2⟩ ⟨c1,c2⟩
  · intro k hk
    refine DA (fun h0=>hk _ ⟨1,by omega,rfl,⟨by decide,rfl,by omega,by simp⟩,by omega,by simp⟩) (fun h0=>?_)
    obtain ⟨n,hn⟩:∃ n:Nat,g.N=n:=⟨g.N.toNat,by omega⟩
    exact hk (g.N,g.Edges) ⟨n,by omega,hn,⟨hg,hn,by omega,by simp only; omega⟩,by omega,hl⟩
theorem uF {R C:Nat} (hR:1≤R∧R≤4) (hC:1≤C∧C≤4):uE g n R C=(((gB (DU g) n).length:Int),0):=by
  unfold uE ZH
  rw [if_pos ⟨by simp only [decide_eq_true_eq]; omega,by simp only [decide_eq_true_eq]; omega⟩]
theorem wT (nr:Nat→Nat→Bool) (h:n≤30):(gB nr n).length≤27000:=by
  have h1:=cU (nr:=nr) (n:=n) n
  have h2:=pV h (Nat.le_refl n)
  show (gA nr n n).length≤_
  omega
theorem kE {h:AM} (hh:∀ a b,QL g a b=QL h a b) (n:Nat):gB (DU g) n=gB (DU h) n:=by
  have:DU g=DU h:=by funext a b; exact hh a b
  rw [this]
theorem wU (a0:KB) (a1:Int) (h0:W8 a0):UX a0 a1 (fun r=>r=true):=by
  unfold UX
  refine Ab3 h0 fun g n v R C hg hn hl v0 v1 hR hC=>?_
  have hgd:=OR hg.right
  have hb:0≤Z2 .i64 a1 2147483647∧Z2 .i64 a1 2147483647≤2147483647:=AdG a1 (m:=2147483647) (by omega)
  dsimp only
  refine AU (fun (s:List AL) i=>(s,i)) 0 g.Edges.length (by omega) (fun i s=>s.length=1+2*i∧HH n s∧∀ a b,a≠b→((∃ e∈s,aC a b e)↔∃ e∈g.Edges.take i,aC a b e)) (by omega) ⟨rfl,fun e he=>?_,fun a b hab=>?_⟩ (fun i s next _ hi hm hx=>?_) (fun s next hm=>?_)
  · rw [List.mem_singleton] at he; subst he
    exact ⟨⟨⟨v0,v1⟩,v0,v1⟩,by unfold rS; simp⟩
  · constructor
    · rintro ⟨e,he,h⟩
      rw [List.mem_singleton] at he; subst he
      unfold aC at h
      simp only at h
      omega
    · rintro ⟨e,he,_⟩; simp at he
  · obtain ⟨h1,h2,h3⟩:=hm
    dsimp only
    refine BC (by simp; omega) (BK hi (BB (by simp; omega) (hx _ ⟨by simp; omega,fun e he=>?_,fun a b hab=>?_⟩)))
    · have hge:=hgd _ (List.getElem_mem hi)
      rw [hg.N] at hge
      rcases List.mem_append.1 he with he | he
      · exact h2 e he
      · rcases List.mem_cons.1 he with rfl | he
        · exact ⟨⟨hge.1.2,hge.1.1⟩,by unfold rS; simp only; omega⟩
        · rw [List.mem_singleton] at he; subst he; exact hge
    · rw [List.take_succ_eq_append_getElem hi]
      constructor
      · rintro ⟨e,he,h⟩
        rcases List.mem_append.1 he with he | he
        · obtain ⟨x,hx,h'⟩:=(h3 a b hab).1 ⟨e,he,h⟩
          exact ⟨x,List.mem_append.2 (.inl hx),h'⟩
        · refine ⟨g.Edges[i],List.mem_append.2 (.inr (by simp)),?_⟩
          rcases List.mem_cons.1 he with rfl | he
          · unfold aC at h ⊢
            simp only at h
            rcases h with h | h
            · exact .inr ⟨h.2,h.1⟩
            · exact .inl ⟨h.2,h.1⟩
          · rw [List.mem_singleton] at he; subst he; exact h
      · rintro ⟨e,he,h⟩
        rcases List.mem_append.1 he with he | he
        · obtain ⟨x,hx,h'⟩:=(h3 a b hab).2 ⟨e,he,h⟩
          exact ⟨x,List.mem_append.2 (.inl hx),h'⟩
        · rw [List.mem_singleton] at he; subst he
          exact ⟨_,List.mem_append.2 (.inr (by simp)),h⟩
  · obtain ⟨h1,h2,h3⟩:=hm
    rw [List.take_length] at h3
    have hh:SmallG ⟨g.N,s⟩ n:=⟨aA (by simp only; rw [hg.N]; omega) (by simp only; omega) (by rw [hg.N]; exact h2),hg.N,hg.n30,by simp only; omega⟩
    have hnear:∀ a b,QL g a b=QL ⟨g.N,s⟩ a b:=fun a b=>by
      unfold QL
      by_cases hab:a=b
      · simp [hab]
      · rw [decide_eq_true hab,Bool.true_and,Bool.true_and]
        rw [Bool.eq_iff_iff,List.any_eq_true,List.any_eq_true]
        simp only [decide_eq_true_eq]
        exact (h3 a b hab).symm
    have hlt:=wT (DU g) hg.n30
    refine AN (by simp) (WO hg (WO hh ?_))
    rw [uF hR hC,uF hC hR,←kE hnear n]
    refine Ab2 (BC rfl (BC rfl (BC rfl (BC (by simp) (XS hg.right hg.N hg.n30 (XS hh.right hh.N hh.n30 ?_))))))
    rw [←kE hnear n]
    exact zC (by omega) rfl
end Go.Proofs.YtbohadngdkjljaaGreat
