import Derived.Test.YtbohadngdkjljaaGreatTriC
namespace Go.Proofs.YtbohadngdkjljaaGreat
open Go Go.Fw
set_option linter.unusedVariables false
set_option linter.unusedSimpArgs false
variable {n:Nat} {g:AL}
theorem zN (c:Nat) (f:Nat→Nat):∀ m,LI (fun i=>c*f i) m=c*LI f m
  | 0=>rfl
  | m+1=>by show LI _ m+c*f m=c*(LI f m+f m); rw [zN c f m,Nat.mul_add]
theorem uF (f:Nat→Nat→Nat) (a:Nat):∀ b,LI (fun i=>LI (fun j=>f i j) a) b=LI (fun j=>LI (fun i=>f i j) b) a
  | 0=>by
    show 0=LI (fun _=>0) a
    rw [JG]; simp
  | b+1=>by
    show LI _ b+LI (fun j=>f b j) a=LI (fun j=>LI (fun i=>f i j) b+f b j) a
    rw [uF f a b,zF]
theorem kJ {α β:Type} (f:α→List β):∀ l:List α,(l.flatMap f).length=(l.map fun x=>(f x).length).sum
  | []=>rfl
  | x :: l=>by rw [List.flatMap_cons,List.length_append,kJ f l]; rfl
theorem eQ (f:Nat→Nat):∀ m,((List.range m).map f).sum=LI f m
  | 0=>rfl
  | m+1=>by rw [List.range_succ,List.map_append,List.sum_append,eQ f m]; simp [LI]
theorem kK (p:Nat→Bool):∀ m,((List.range m).filter p).length=LI (fun i=>if p i=true then 1 else 0) m
  | 0=>rfl
  | m+1=>by
    rw [List.range_succ,List.filter_append,List.length_append,kK p m]
    show _=LI _ m+_
    congr 1
    cases h:p m <;> simp [List.filter_cons,h]
def mN (nr:Nat→Nat→Bool) (a b:Nat):Nat:=if a<b∧nr a b=true then 1 else 0
theorem AfP (nr:Nat→Nat→Bool) (n:Nat):(lM nr n).length=LI (fun a=>LI (fun b=>LI (fun c=>mN nr a b*(mN nr b c*mN nr a c)) n) n) n:=by
  show ((List.range n).flatMap fun a=>tB nr n a n).length=_
  rw [kJ,eQ]
  refine EG fun a _=>?_
  show ((List.range n).flatMap fun b=>if a<b∧nr a b=true then tC nr a b n else []).length=_
  rw [kJ,eQ]
  refine EG fun b _=>?_
  rw [zN]
  unfold mN
  by_cases h:a<b∧nr a b=true
  · rw [if_pos h,if_pos h,Nat.one_mul]
    unfold tC
    rw [List.length_map,kK]
    refine EG fun c _=>?_
    by_cases h1:b<c∧nr b c=true
    · by_cases h2:nr a c=true
      · have hp:(decide (b<c) && (nr a c && nr b c))=true:=by simp [h1,h2]
        have hac:a<c:=by omega
        rw [if_pos hp,if_pos h1,if_pos ⟨hac,h2⟩]
      · have hp:¬(decide (b<c) && (nr a c && nr b c))=true:=by simp [h2]
        rw [if_neg hp,if_neg (fun hq:a<c∧nr a c=true=>h2 hq.2),Nat.mul_zero]
    · have hp:¬(decide (b<c) && (nr a c && nr b c))=true:=by
        intro h3
        simp only [Bool.and_eq_true,decide_eq_true_eq] at h3
        exact h1 ⟨h3.1,h3.2.2⟩
      rw [if_neg hp,if_neg h1,Nat.zero_mul]
  · rw [if_neg h,if_neg h,Nat.zero_mul]
    rfl
def fT (T:List AD):List AD:=(FC 5 T T T).filterMap (pE 5)
structure kL (n:Nat) (nr:Nat→Nat→Bool) (T:List AD):Prop where
  light:Light n T
  val:∀ u j:Nat,u<n→j<n→aT T u j=(mN nr u j:Int)
  one:∀ t∈T,t.Val=1
theorem AhC (h:GN g=0) (hN:g.N=n) (hn:n≤30) (hl:g.Edges.length≤1000):kL n (CI g) (DF (ER g)):=by
  obtain ⟨hP,hPl,hE⟩:=pY hN (TH h)
  have hL:=hP.light hn (by omega)
  refine ⟨hL,fun u j hu hj=>?_,fun t ht=>by have:=hP.one _ (hP.mem.1 ht); exact this⟩
  rw [hP.val hL.can,AdP hP.srt]
  have e:=hE (j:Int) (u:Int)
  have e2:=eO (g:=g) (a:=(j:Int)) (b:=(u:Int))
  have e3:=kI g (u:Int) (j:Int)
  unfold IJ at e
  unfold mN CI
  by_cases hh:u<j∧NP g u j=true
  · rw [if_pos hh,if_pos (e.2 ⟨by omega,e2.1 (by rw [←e3]; exact hh.2)⟩)]
  · rw [if_neg hh,if_neg]
    intro hc
    obtain ⟨q1,q2⟩:=e.1 hc
    exact hh ⟨by omega,by rw [e3]; exact e2.2 q2⟩
variable {nr:Nat→Nat→Bool} {T:List AD}
def YU (nr:Nat→Nat→Bool) (n i k:Nat):Nat:=LI (fun j=>mN nr i j*mN nr j k) n
theorem uG (h:kL n nr T) {i k:Nat} (hi:i<n) (hk:k<n):TI n (fun j=>aT T i j*aT T j k)=(YU nr n i k:Int):=by
  unfold YU
  rw [←tY]
  refine kF fun j hj=>?_
  rw [h.val i j hi hj,h.val j k hj hk,Int.natCast_mul]
theorem AdY (a b:Nat):mN nr a b≤1:=by unfold mN; split <;> omega
theorem wZ (i k:Nat):∀ m,LI (fun j=>mN nr i j*mN nr j k) m≤m
  | 0=>by simp [LI]
  | m+1=>by
    show LI _ m+mN nr i m*mN nr m k≤m+1
    have:=wZ i k m
    have:mN nr i m*mN nr m k≤1*1:=Nat.mul_le_mul (AdY _ _) (AdY _ _)
    omega
def Ab7 (nr:Nat→Nat→Bool) (n:Nat) (t:AD):Nat:=YU nr n t.Row.toNat t.Col.toNat
theorem xA (h:kL n nr T) {t:AD} (ht:t∈T):∃ i k:Nat,i<n∧k<n∧t.Row=i∧t.Col=k:=by
  have:=h.light.can.inn t ht
  unfold ZC at this
  exact ⟨t.Row.toNat,t.Col.toNat,by omega,by omega,by omega,by omega⟩
theorem uH (h:kL n nr T) (hn:n≤30):VS 5 n n (FC 5 T T T)=(BO n n (fT T),0)∧Canon n n (fT T)∧∀ t∈fT T,FS t.Val:=by
  have hM:=h.light.can
  have hP:yT n n (FC 5 T T T):=gZ (ra:=(n:Int)) (ca:=n) (rb:=n) (cb:=n) hM
  have hcan:Canon n n (fT T):=by
    refine ⟨hM.r0,hM.r1,hM.c0,hM.c1,?_,?_,fun t ht=>?_⟩
    · have h1:=hP.len
      have h2:(fT T).length≤(FC 5 T T T).length:=List.length_filterMap_le _ _
      omega
    · refine List.Pairwise.filterMap _ (fun a b hab c hc d hd=>?_) hP.inc
      have h1:=wT hc
      have h2:=wT hd
      show TT (c.Row,c.Col) (d.Row,d.Col)
      rw [h1.1,h1.2,h2.1,h2.2]; exact hab
    · obtain ⟨c,hc,he⟩:=List.mem_filterMap.1 ht
      have h1:=wT he
      have h2:=hP.inn c hc
      unfold ZC
      rw [h1.1,h1.2]; exact ⟨h2.1.1,h2.1.2,h2.2.1,h2.2.2⟩
  refine ⟨?_,hcan,fun t ht=>?_⟩
  · unfold VS
    rw [if_pos]
    · exact oW hcan pF (by omega)
    · rw [List.all_eq_true]
      intro c hc
      obtain ⟨t,ht,hto⟩:=List.mem_filterMap.1 hc
      obtain ⟨i,k,hi,hk,e1,e2⟩:=xA h ht
      unfold HV at hto
      obtain ⟨w,hw,hcw⟩:=Option.map_eq_some_iff.1 hto
      subst hcw
      rw [e1,e2] at hw
      have hI:FS (TI n fun j=>aT T i j*aT T j k):=by rw [uG h hi hk]; have:=wZ (nr:=nr) i k n; unfold YU FS; omega
      rcases tX h.light i k with ⟨h1,_⟩ | h1
      · rw [h1] at hw; cases hw
      · rw [h1] at hw; cases hw
        show (KW (NX _)).2=true
        rw [cT hI]
  · exact pF t ht
theorem nO (h:kL n nr T) (hn:n≤30):∀ M:List AD,(∀ t∈M,t∈T)→(((M.filterMap (HV 5 T T)).filterMap (pE 5)).map fun t=>t.Val).sum=((M.map (Ab7 nr n)).sum:Int)
  | [],_=>rfl
  | t :: M,hm=>by
    have ih:=nO h hn M fun x hx=>hm x (List.mem_cons_of_mem _ hx)
    obtain ⟨i,k,hi,hk,e1,e2⟩:=xA h (hm t List.mem_cons_self)
    have hv:Ab7 nr n t=YU nr n i k:=by unfold Ab7; rw [e1,e2]; rfl
    have hwb:YU nr n i k≤n:=wZ i k n
    have hI:FS (YU nr n i k:Int):=by unfold FS; omega
    rw [List.map_cons,List.sum_cons,hv,Int.natCast_add,←ih]
    have hs:=uG h hi hk
    rcases tX h.light i k with ⟨h1,h2⟩ | h1
    · have:HV 5 T T t=none:=by unfold HV; rw [e1,e2,h1]; rfl
      rw [List.filterMap_cons_none this]
      rw [hs] at h2
      omega
    · rw [hs] at h1
      have hc:HV 5 T T t=some ⟨t.Row,t.Col,NX (YU nr n i k:Int)⟩:=by unfold HV; rw [e1,e2,h1]; rfl
      rw [List.filterMap_cons_some hc]
      by_cases h0:YU nr n i k=0
      · have:pE 5 (⟨t.Row,t.Col,NX (YU nr n i k:Int)⟩:AK)=none:=by
          unfold pE
          dsimp only
          rw [cT hI]
          dsimp only
          rw [if_neg]
          rw [h0]; intro h; exact h rfl
        rw [List.filterMap_cons_none this,h0]; simp
      · have:pE 5 (⟨t.Row,t.Col,NX (YU nr n i k:Int)⟩:AK)=some ⟨t.Row,t.Col,(YU nr n i k:Int)⟩:=by
          unfold pE
          dsimp only
          rw [cT hI]
          dsimp only
          rw [if_pos]
          show (YU nr n i k:Int)≠0
          omega
        rw [List.filterMap_cons_some this,List.map_cons,List.sum_cons]
theorem uI:∀ (l:List AD) (z:Int),(∀ t∈l,FS t.Val)→l.foldl (fun w u=>GG 5 w (QA u.Val)) (NX z)=NX (z+(l.map fun t=>t.Val).sum)
  | [],z,_=>by simp
  | t :: l,z,h=>by
    rw [List.foldl_cons,WH (h t (by simp)),RA,uI l _ fun x hx=>h x (by simp [hx]),List.map_cons,List.sum_cons,Int.add_assoc]
theorem AfQ {X:List AD} (h:∀ t∈X,FS t.Val) (hs:FS (X.map fun t=>t.Val).sum):AcO 5 X=((X.map fun t=>t.Val).sum,0):=by
  unfold AcO
  rw [if_neg (by omega)]
  match X,h,hs with
  | [],_,_=>rfl
  | t :: l,h,hs=>
    dsimp only
    rw [WH (h t (by simp)),uI l _ fun x hx=>h x (by simp [hx])]
    rw [List.map_cons,List.sum_cons] at hs ⊢
    rw [cT hs]
    rfl
theorem xB (h:kL n nr T) (hn:n≤30):AcO 5 (fT T)=(((lM nr n).length:Int),0):=by
  have hv:((fT T).map fun t=>t.Val).sum=((T.map (Ab7 nr n)).sum:Int):=nO h hn T fun t ht=>ht
  have hc:=h.light.can
  have hkey:(T.map (Ab7 nr n)).sum=((T.map key).map fun q=>YU nr n q.1.toNat q.2.toNat).sum:=by rw [List.map_map]; rfl
  have hnd:(T.map key).Nodup:=by
    rw [List.nodup_iff_pairwise_ne,List.pairwise_map]
    exact hc.srt.imp fun {a b} hab e=>by
      have:TT (key a) (key b):=hab
      rw [e] at this
      exact GH _ this
  have hin:∀ q∈T.map key,∃ f t:Nat,f<n∧t<n∧q=((f:Int),(t:Int)):=fun q hq=>by
    obtain ⟨t,ht,rfl⟩:=List.mem_map.1 hq
    obtain ⟨i,k,hi,hk,e1,e2⟩:=xA h ht
    exact ⟨i,k,hi,hk,by unfold key; rw [e1,e2]⟩
  have hsum:=tU (n:=n) (fun i k=>YU nr n i k) (T.map key) hnd hin
  have hmem:∀ i k:Nat,i<n→k<n→((((i:Int),(k:Int))∈T.map key)↔mN nr i k=1):=fun i k hi hk=>by
    have hval:=h.val i k hi hk
    unfold aT at hval
    constructor
    · intro hm
      obtain ⟨t,ht,hk2⟩:=List.mem_map.1 hm
      unfold key at hk2
      simp only [Prod.mk.injEq] at hk2
      have hm2:(⟨(i:Int),(k:Int),t.Val⟩:AD)∈T:=by rw [←hk2.1,←hk2.2]; exact ht
      rw [(TC hc (by omega)).2 hm2] at hval
      have h1:=h.one t ht
      rw [h1] at hval
      have:gO (some 1)=1:=rfl
      omega
    · intro hm
      cases e:WW (cF T (i:Int)) (k:Int) with
      | none=>
        rw [e] at hval
        have:gO none=0:=rfl
        omega
      | some x=>exact List.mem_map.2 ⟨_,(TC hc (by omega)).1 e,rfl⟩
  have hcount:(T.map (Ab7 nr n)).sum=(lM nr n).length:=by
    rw [hkey,hsum,AfP]
    refine EG fun a ha=>?_
    rw [uF (fun b c=>mN nr a b*(mN nr b c*mN nr a c))]
    refine EG fun c hc2=>?_
    have hm:=hmem a c ha hc2
    have hle:=AdY (nr:=nr) a c
    by_cases e:mN nr a c=1
    · rw [if_pos (hm.2 e)]
      unfold YU
      refine EG fun b _=>?_
      rw [e,Nat.mul_one]
    · rw [if_neg fun hh=>e (hm.1 hh)]
      have e0:mN nr a c=0:=by omega
      have:LI (fun b=>mN nr a b*(mN nr b c*mN nr a c)) n=LI (fun _=>0) n:=EG fun b _=>by rw [e0]; simp
      rw [this,JG]; simp
  have hlen:=cV (nr:=nr) (n:=n) n
  have hb:=hG hn (Nat.le_refl n)
  rw [AfQ (uH h hn).2.2 (by rw [hv,hcount]; unfold FS; show _∧((aC nr n n).length:Int)≤_; omega),hv,hcount]
set_option maxHeartbeats 2000000
variable {n:Nat} {g:AL}
def ZI (r:Int):Bool:=decide (1≤r∧r≤8)
theorem uJ {r:Int} {Q:Bool→Prop} (hQ:Q (ZI r)):XJ r Q:=by
  unfold XJ
  unfold ZI at hQ
  refine AB (fun h=>?_) (fun h=>?_)
  · simpa [h] using hQ
  · simpa [h] using hQ
def zP:BQ:={ Ring:=0,A:=({ Rows:=0,Cols:=0,Start:=([]:List Int),Col:=([]:List Int),Val:=([]:List Int) }:Rows),B:=({ Rows:=0,Cols:=0,Start:=([]:List Int),Col:=([]:List Int),Val:=([]:List Int) }:Rows),Mask:=({ Rows:=0,Cols:=0,Start:=([]:List Int),Col:=([]:List Int),Val:=([]:List Int) }:Rows),R:=0,C:=0,Room:=0 }
structure SmallG (g:AL) (n:Nat):Prop where
  right:GN g=0
  N:g.N=n
  n30:n≤30
  len:g.Edges.length≤1000
theorem SmallG.down (h:SmallG g n):kL n (CI g) (DF (ER g)):=AhC h.right h.N h.n30 h.len
theorem SmallG.graph (h:SmallG g n):oU (ER g)=(BO n n (DF (ER g)),0):=by
  obtain ⟨hP,hPl,_⟩:=pY h.N (TH h.right)
  have:=h.len
  have:=h.n30
  unfold oU
  rw [if_pos (hP.right (by omega) (by omega)),hP.N]
def Ag4 (n:Nat) (T:List AD) (r c:Int):BQ:=⟨5,BO n n T,BO n n T,BO n n T,r,c,4⟩
def uK (g:AL) (n:Nat) (r c:Int):BQ×Int:=if ZI r=true∧ZI c=true then (Ag4 n (DF (ER g)) r c,0) else (zP,3)
theorem XV (h:SmallG g n) {r c:Int} {Q:BQ×Int→Prop} (hQ:Q (uK g n r c)):MJ g r c Q:=by
  unfold MJ
  refine NK ?_
  rw [h.right]
  unfold uK at hQ
  refine AN (by simp) (uJ (CQ (fun h1=>?_) (fun h1=>uJ (CQ (fun h2=>?_) (fun h2=>zH h.right (jJ ?_))))))
  · rw [if_neg (by rw [h1]; simp)] at hQ; exact hQ
  · rw [if_neg (by rw [h2]; simp)] at hQ; exact hQ
  · rw [if_pos ⟨h1,h2⟩] at hQ
    rw [h.graph]
    refine jJ ?_
    rw [h.graph]
    refine jJ ?_
    rw [h.graph]
    exact hQ
def uL (g:AL) (n:Nat) (r c:Int):Int×Int:=if ZI r=true∧ZI c=true then (((lM (CI g) n).length:Int),0) else (0,3)
theorem aF (h:SmallG g n) {r c:Int} {Q:Int×Int→Prop} (hQ:Q (uL g n r c)):W8 g r c Q:=by
  unfold W8
  refine XV h ?_
  unfold uK
  unfold uL at hQ
  by_cases hs:ZI r=true∧ZI c=true
  · rw [if_pos hs] at hQ ⊢
    refine AN rfl ?_
    unfold ZI at hs
    simp only [decide_eq_true_eq] at hs
    obtain ⟨R,rfl⟩:∃ R:Nat,r=R:=⟨r.toNat,by omega⟩
    obtain ⟨C,rfl⟩:∃ C:Nat,c=C:=⟨c.toNat,by omega⟩
    have hD:=h.down
    generalize DF (ER g)=T at hD ⊢
    have hin:∀ t∈T,FS t.Val:=fun t ht=>hD.light.int ht
    have hd:DOk0 ⟨5,n,n,n,T,T,T,R,C,4,[]⟩:=
      ⟨by show (1:Int)≤5∧(5:Int)≤5; omega,hD.light.can,hD.light.can,hD.light.can,hin,hin,hin,by show 1≤R∧R≤8; omega,by show 1≤C∧C≤8; omega,by show 1≤4∧4≤64; omega⟩
    show PP (Data.p ⟨5,n,n,n,T,T,T,R,C,4,[]⟩) _
    refine AdJ hd ?_
    show RR (Data.p ⟨5,n,n,n,T,T,T,R,C,4,[]⟩) _ _ _
    refine wO hd ?_
    obtain ⟨p1,p2,p3⟩:=uH hD h.n30
    have ed:VS 5 n n (eK ⟨5,n,n,n,T,T,T,R,C,4,[]⟩)=(BO n n (fT (T)),0):=p1
    show AP ((VS 5 n n (eK ⟨5,n,n,n,T,T,T,R,C,4,[]⟩)).2 != 0) _ (SR 5 (VS 5 n n (eK ⟨5,n,n,n,T,T,T,R,C,4,[]⟩)).1 _)
    rw [ed]
    refine AN (by simp) (lH p2 p3 ?_)
    rw [xB hD h.n30]
    exact hQ
  · rw [if_neg hs] at hQ ⊢
    exact AZ (by simp) hQ
def GT:AL:={ N:=4,Edges:=([({ From:=0,To:=1,W:=9 }:AM),({ From:=2,To:=1,W:=0 }:AM),({ From:=0,To:=2,W:=1 }:AM),({ From:=3,To:=3,W:=1 }:AM)]:List AM) }
theorem NQ:SmallG GT 4:=⟨by decide,rfl,by omega,by decide⟩
theorem xC:lM (CI GT) 4=[(0,1,2)]:=by decide
theorem AhD:(DF (ER GT)).length=3:=by decide
theorem Ab8 {Q:Bool→Prop} (hQ:Q true):W9 Q:=by
  unfold W9
  refine aF (g:=GT) NQ ?_
  show W8 GT 0 1 _
  refine aF (g:=GT) NQ ?_
  show MJ GT 1 2 _
  refine XV (g:=GT) NQ ?_
  have e1:uL GT 4 2 2=(1,0):=by unfold uL; rw [if_pos (by decide),xC]; rfl
  have e2:uL GT 4 0 1=(0,3):=by unfold uL; rw [if_neg (by decide)]
  have e3:uK GT 4 1 2=(Ag4 4 (DF (ER GT)) 1 2,0):=by unfold uK; rw [if_pos (by decide)]
  rw [e1,e2,e3]
  refine AZ rfl (AZ rfl (AZ rfl (AZ rfl (AZ ?_ (AZ rfl ?_)))))
  · show (((DF (ER GT)).map (·.Val)).length:Int)==3
    rw [List.length_map,AhD]; rfl
  · show bI GT _
    refine uE NQ.right NQ.N NQ.n30 ?_
    rw [xC]
    refine AfO (by simp) (AZ rfl ?_)
    show iR GT _
    refine Ab5 NQ.right NQ.N NQ.n30 ?_
    rw [xC]
    have e4:ofT 4 [(0,1,2)]=[1,1,1,0]:=by decide
    rw [e4]
    exact Ab6 (by simp) hQ
theorem Ab9 {a:KB} {Q:(AL×Int×Int×Int)→Prop} (h:WA a) (hQ:∀ (g:AL) (n:Nat) (v:Int) (R C:Nat),SmallG g n→n≤23→g.Edges.length≤60→0≤v→v<n→(1≤R∧R≤4)→(1≤C∧C≤4)→Q (g,v,(R:Int),(C:Int))):LS a Q:=by
  unfold LS
  obtain ⟨_,_,hR,hC⟩:=h
  refine AdN fun g hN hl hg=>?_
  obtain ⟨R,r1,r2,re⟩:=zD hR
  obtain ⟨C,c1,c2,ce⟩:=zD hC
  rw [re,ce]
  refine FI (fun s:Int×List AM=>∃ n:Nat,1≤n∧s.1=n∧SmallG ⟨s.1,s.2⟩ n∧n≤23∧s.2.length≤60) ?_ ?_
  · rintro ⟨N,E⟩ ⟨n,h1,h2,h3,h4,h5⟩
    simp only at h2 h3 h5 ⊢
    refine YR (fun h=>by omega) fun _ v v0 v1=>hQ ⟨N,E⟩ n v R C h3 h4 h5 v0 (by omega) ⟨r1,r2⟩ ⟨c1,c2⟩
  · intro k hk
    refine CO (fun h0=>hk _ ⟨1,by omega,rfl,⟨by decide,rfl,by omega,by simp⟩,by omega,by simp⟩) (fun h0=>?_)
    obtain ⟨n,hn⟩:∃ n:Nat,g.N=n:=⟨g.N.toNat,by omega⟩
    exact hk (g.N,g.Edges) ⟨n,by omega,hn,⟨hg,hn,by omega,by simp only; omega⟩,by omega,hl⟩
theorem AdZ {R C:Nat} (hR:1≤R∧R≤4) (hC:1≤C∧C≤4):uL g n R C=(((lM (CI g) n).length:Int),0):=by
  unfold uL ZI
  rw [if_pos ⟨by simp only [decide_eq_true_eq]; omega,by simp only [decide_eq_true_eq]; omega⟩]
theorem xD (a0:KB) (h0:WA a0):UX a0 (fun r=>r=true):=by
  unfold UX
  refine Ab9 h0 fun g n v R C hg hn hl v0 v1 hR hC=>aF hg ?_
  rw [AdZ hR hC]
  refine Ab8 (AZ rfl (AZ rfl (uC hg.right hg.N hg.n30 ?_)))
  simp
end Go.Proofs.YtbohadngdkjljaaGreat
