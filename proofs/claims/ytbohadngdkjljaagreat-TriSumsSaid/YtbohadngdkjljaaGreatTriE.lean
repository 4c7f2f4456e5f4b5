import Derived.Test.YtbohadngdkjljaaGreatTriC
namespace Go.Proofs.YtbohadngdkjljaaGreat
open Go Go.Fw
set_option linter.unusedVariables false
set_option linter.unusedSimpArgs false
variable {n:Nat} {g:AL}
theorem zM (c:Nat) (f:Nat→Nat):∀ m,LH (fun i=>c*f i) m=c*LH f m
  | 0=>rfl
  | m+1=>by show LH _ m+c*f m=c*(LH f m+f m); rw [zM c f m,Nat.mul_add]
theorem uA (f:Nat→Nat→Nat) (a:Nat):∀ b,LH (fun i=>LH (fun j=>f i j) a) b=LH (fun j=>LH (fun i=>f i j) b) a
  | 0=>by
    show 0=LH (fun _=>0) a
    rw [JG]; simp
  | b+1=>by
    show LH _ b+LH (fun j=>f b j) a=LH (fun j=>LH (fun i=>f i j) b+f b j) a
    rw [uA f a b,zB]
theorem kC {α β:Type} (f:α→List β):∀ l:List α,(l.flatMap f).length=(l.map fun x=>(f x).length).sum
  | []=>rfl
  | x :: l=>by rw [List.flatMap_cons,List.length_append,kC f l]; rfl
theorem eL (f:Nat→Nat):∀ m,((List.range m).map f).sum=LH f m
  | 0=>rfl
  | m+1=>by rw [List.range_succ,List.map_append,List.sum_append,eL f m]; simp [LH]
theorem kD (p:Nat→Bool):∀ m,((List.range m).filter p).length=LH (fun i=>if p i=true then 1 else 0) m
  | 0=>rfl
  | m+1=>by
    rw [List.range_succ,List.filter_append,List.length_append,kD p m]
    show _=LH _ m+_
    congr 1
    cases h:p m <;> simp [List.filter_cons,h]
def mN (nr:Nat→Nat→Bool) (a b:Nat):Nat:=if a<b∧nr a b=true then 1 else 0
theorem AfP (nr:Nat→Nat→Bool) (n:Nat):(OQ nr n).length=LH (fun a=>LH (fun b=>LH (fun c=>mN nr a b*(mN nr b c*mN nr a c)) n) n) n:=by
  show ((List.range n).flatMap fun a=>tB nr n a n).length=_
  rw [kC,eL]
  refine EG fun a _=>?_
  show ((List.range n).flatMap fun b=>if a<b∧nr a b=true then tC nr a b n else []).length=_
  rw [kC,eL]
  refine EG fun b _=>?_
  rw [zM]
  unfold mN
  by_cases h:a<b∧nr a b=true
  · rw [if_pos h,if_pos h,Nat.one_mul]
    unfold tC
    rw [List.length_map,kD]
    refine EG fun c _=>?_
    by_cases h1:b<c∧nr b c=true
    · by_cases h2:nr a c=true
      · have hp:(decide (b<c) && (nr a c && nr b c))=true:=by simp [h1,h2]
        have hac:a<c:=by omega
        rw [if_pos hp,if_pos h1,if_pos ⟨hac,h2⟩]
      · have hp:¬(decide (b<c) && (nr a c && nr b c))=true:=by simp [h2]
        rw [if_neg hp,if_neg (fun hq:a<c∧nr a c=true=>h2 hq.2),Nat.mul_zero]
    · have hp:¬(decide (b<c) && (nr a c && nr b c))=true:=by
        intro h3
        simp only [Bool.and_eq_true,decide_eq_true_eq] at h3
        exact h1 ⟨h3.1,h3.2.2⟩
      rw [if_neg hp,if_neg h1,Nat.zero_mul]
  · rw [if_neg h,if_neg h,Nat.zero_mul]
    rfl
def fP (T:List AD):List AD:=(FC 5 T T T).filterMap (pA 5)
structure kE (n:Nat) (nr:Nat→Nat→Bool) (T:List AD):Prop where
  light:Light n T
  val:∀ u j:Nat,u<n→j<n→aT T u j=(mN nr u j:Int)
  one:∀ t∈T,t.Val=1
theorem AhA (h:IZ g=0) (hN:g.N=n) (hn:n≤30) (hl:g.Edges.length≤1000):kE n (CR g) (DF (ES g)):=by
  obtain ⟨hP,hPl,hE⟩:=pU hN (TG h)
  have hL:=hP.light hn (by omega)
  refine ⟨hL,fun u j hu hj=>?_,fun t ht=>by have:=hP.one _ (hP.mem.1 ht); exact this⟩
  rw [hP.val hL.can,AdQ hP.srt]
  have e:=hE (j:Int) (u:Int)
  have e2:=eJ (g:=g) (a:=(j:Int)) (b:=(u:Int))
  have e3:=kA g (u:Int) (j:Int)
  unfold II at e
  unfold mN CR
  by_cases hh:u<j∧XT g u j=true
  · rw [if_pos hh,if_pos (e.2 ⟨by omega,e2.1 (by rw [←e3]; exact hh.2)⟩)]
  · rw [if_neg hh,if_neg]
    intro hc
    obtain ⟨q1,q2⟩:=e.1 hc
    exact hh ⟨by omega,by rw [e3]; exact e2.2 q2⟩
variable {nr:Nat→Nat→Bool} {T:List AD}
def YT (nr:Nat→Nat→Bool) (n i k:Nat):Nat:=LH (fun j=>mN nr i j*mN nr j k) n
theorem uB (h:kE n nr T) {i k:Nat} (hi:i<n) (hk:k<n):TH n (fun j=>aT T i j*aT T j k)=(YT nr n i k:Int):=by
  unfold YT
  rw [←tT]
  refine jX fun j hj=>?_
  rw [h.val i j hi hj,h.val j k hj hk,Int.natCast_mul]
theorem AdY (a b:Nat):mN nr a b≤1:=by unfold mN; split <;> omega
theorem wW (i k:Nat):∀ m,LH (fun j=>mN nr i j*mN nr j k) m≤m
  | 0=>by simp [LH]
  | m+1=>by
    show LH _ m+mN nr i m*mN nr m k≤m+1
    have:=wW i k m
    have:mN nr i m*mN nr m k≤1*1:=Nat.mul_le_mul (AdY _ _) (AdY _ _)
    omega
def Ab7 (nr:Nat→Nat→Bool) (n:Nat) (t:AD):Nat:=YT nr n t.Row.toNat t.Col.toNat
theorem wX (h:kE n nr T) {t:AD} (ht:t∈T):∃ i k:Nat,i<n∧k<n∧t.Row=i∧t.Col=k:=by
  have:=h.light.can.inn t ht
  unfold ZB at this
  exact ⟨t.Row.toNat,t.Col.toNat,by omega,by omega,by omega,by omega⟩
theorem uC (h:kE n nr T) (hn:n≤30):VT 5 n n (FC 5 T T T)=(BO n n (fP T),0)∧Canon n n (fP T)∧∀ t∈fP T,FP t.Val:=by
  have hM:=h.light.can
  have hP:yQ n n (FC 5 T T T):=gV (ra:=(n:Int)) (ca:=n) (rb:=n) (cb:=n) hM
  have hcan:Canon n n (fP T):=by
    refine ⟨hM.r0,hM.r1,hM.c0,hM.c1,?_,?_,fun t ht=>?_⟩
    · have h1:=hP.len
      have h2:(fP T).length≤(FC 5 T T T).length:=List.length_filterMap_le _ _
      omega
    · refine List.Pairwise.filterMap _ (fun a b hab c hc d hd=>?_) hP.inc
      have h1:=wR hc
      have h2:=wR hd
      show TS (c.Row,c.Col) (d.Row,d.Col)
      rw [h1.1,h1.2,h2.1,h2.2]; exact hab
    · obtain ⟨c,hc,he⟩:=List.mem_filterMap.1 ht
      have h1:=wR he
      have h2:=hP.inn c hc
      unfold ZB
      rw [h1.1,h1.2]; exact ⟨h2.1.1,h2.1.2,h2.2.1,h2.2.2⟩
  refine ⟨?_,hcan,fun t ht=>?_⟩
  · unfold VT
    rw [if_pos]
    · exact oS hcan pB (by omega)
    · rw [List.all_eq_true]
      intro c hc
      obtain ⟨t,ht,hto⟩:=List.mem_filterMap.1 hc
      obtain ⟨i,k,hi,hk,e1,e2⟩:=wX h ht
      unfold HU at hto
      obtain ⟨w,hw,hcw⟩:=Option.map_eq_some_iff.1 hto
      subst hcw
      rw [e1,e2] at hw
      have hI:FP (TH n fun j=>aT T i j*aT T j k):=by rw [uB h hi hk]; have:=wW (nr:=nr) i k n; unfold YT FP; omega
      rcases tS h.light i k with ⟨h1,_⟩ | h1
      · rw [h1] at hw; cases hw
      · rw [h1] at hw; cases hw
        show (KV (NU _)).2=true
        rw [cO hI]
  · exact pB t ht
theorem nK (h:kE n nr T) (hn:n≤30):∀ M:List AD,(∀ t∈M,t∈T)→(((M.filterMap (HU 5 T T)).filterMap (pA 5)).map fun t=>t.Val).sum=((M.map (Ab7 nr n)).sum:Int)
  | [],_=>rfl
  | t :: M,hm=>by
    have ih:=nK h hn M fun x hx=>hm x (List.mem_cons_of_mem _ hx)
    obtain ⟨i,k,hi,hk,e1,e2⟩:=wX h (hm t List.mem_cons_self)
    have hv:Ab7 nr n t=YT nr n i k:=by unfold Ab7; rw [e1,e2]; rfl
    have hwb:YT nr n i k≤n:=wW i k n
    have hI:FP (YT nr n i k:Int):=by unfold FP; omega
    rw [List.map_cons,List.sum_cons,hv,Int.natCast_add,←ih]
    have hs:=uB h hi hk
    rcases tS h.light i k with ⟨h1,h2⟩ | h1
    · have:HU 5 T T t=none:=by unfold HU; rw [e1,e2,h1]; rfl
      rw [List.filterMap_cons_none this]
      rw [hs] at h2
      omega
    · rw [hs] at h1
      have hc:HU 5 T T t=some ⟨t.Row,t.Col,NU (YT nr n i k:Int)⟩:=by unfold HU; rw [e1,e2,h1]; rfl
      rw [List.filterMap_cons_some hc]
      by_cases h0:YT nr n i k=0
      · have:pA 5 (⟨t.Row,t.Col,NU (YT nr n i k:Int)⟩:AK)=none:=by
          unfold pA
          dsimp only
          rw [cO hI]
          dsimp only
          rw [if_neg]
          rw [h0]; intro h; exact h rfl
        rw [List.filterMap_cons_none this,h0]; simp
      · have:pA 5 (⟨t.Row,t.Col,NU (YT nr n i k:Int)⟩:AK)=some ⟨t.Row,t.Col,(YT nr n i k:Int)⟩:=by
          unfold pA
          dsimp only
          rw [cO hI]
          dsimp only
          rw [if_pos]
          show (YT nr n i k:Int)≠0
          omega
        rw [List.filterMap_cons_some this,List.map_cons,List.sum_cons]
theorem uD:∀ (l:List AD) (z:Int),(∀ t∈l,FP t.Val)→l.foldl (fun w u=>GF 5 w (PX u.Val)) (NU z)=NU (z+(l.map fun t=>t.Val).sum)
  | [],z,_=>by simp
  | t :: l,z,h=>by
    rw [List.foldl_cons,WG (h t (by simp)),QY,uD l _ fun x hx=>h x (by simp [hx]),List.map_cons,List.sum_cons,Int.add_assoc]
theorem AfQ {X:List AD} (h:∀ t∈X,FP t.Val) (hs:FP (X.map fun t=>t.Val).sum):AcP 5 X=((X.map fun t=>t.Val).sum,0):=by
  unfold AcP
  rw [if_neg (by omega)]
  match X,h,hs with
  | [],_,_=>rfl
  | t :: l,h,hs=>
    dsimp only
    rw [WG (h t (by simp)),uD l _ fun x hx=>h x (by simp [hx])]
    rw [List.map_cons,List.sum_cons] at hs ⊢
    rw [cO hs]
    rfl
theorem wY (h:kE n nr T) (hn:n≤30):AcP 5 (fP T)=(((OQ nr n).length:Int),0):=by
  have hv:((fP T).map fun t=>t.Val).sum=((T.map (Ab7 nr n)).sum:Int):=nK h hn T fun t ht=>ht
  have hc:=h.light.can
  have hkey:(T.map (Ab7 nr n)).sum=((T.map key).map fun q=>YT nr n q.1.toNat q.2.toNat).sum:=by rw [List.map_map]; rfl
  have hnd:(T.map key).Nodup:=by
    rw [List.nodup_iff_pairwise_ne,List.pairwise_map]
    exact hc.srt.imp fun {a b} hab e=>by
      have:TS (key a) (key b):=hab
      rw [e] at this
      exact GG _ this
  have hin:∀ q∈T.map key,∃ f t:Nat,f<n∧t<n∧q=((f:Int),(t:Int)):=fun q hq=>by
    obtain ⟨t,ht,rfl⟩:=List.mem_map.1 hq
    obtain ⟨i,k,hi,hk,e1,e2⟩:=wX h ht
    exact ⟨i,k,hi,hk,by unfold key; rw [e1,e2]⟩
  have hsum:=tP (n:=n) (fun i k=>YT nr n i k) (T.map key) hnd hin
  have hmem:∀ i k:Nat,i<n→k<n→((((i:Int),(k:Int))∈T.map key)↔mN nr i k=1):=fun i k hi hk=>by
    have hval:=h.val i k hi hk
    unfold aT at hval
    constructor
    · intro hm
      obtain ⟨t,ht,hk2⟩:=List.mem_map.1 hm
      unfold key at hk2
      simp only [Prod.mk.injEq] at hk2
      have hm2:(⟨(i:Int),(k:Int),t.Val⟩:AD)∈T:=by rw [←hk2.1,←hk2.2]; exact ht
      rw [(TB hc (by omega)).2 hm2] at hval
      have h1:=h.one t ht
      rw [h1] at hval
      have:gO (some 1)=1:=rfl
      omega
    · intro hm
      cases e:WU (bY T (i:Int)) (k:Int) with
      | none=>
        rw [e] at hval
        have:gO none=0:=rfl
        omega
      | some x=>exact List.mem_map.2 ⟨_,(TB hc (by omega)).1 e,rfl⟩
  have hcount:(T.map (Ab7 nr n)).sum=(OQ nr n).length:=by
    rw [hkey,hsum,AfP]
    refine EG fun a ha=>?_
    rw [uA (fun b c=>mN nr a b*(mN nr b c*mN nr a c))]
    refine EG fun c hc2=>?_
    have hm:=hmem a c ha hc2
    have hle:=AdY (nr:=nr) a c
    by_cases e:mN nr a c=1
    · rw [if_pos (hm.2 e)]
      unfold YT
      refine EG fun b _=>?_
      rw [e,Nat.mul_one]
    · rw [if_neg fun hh=>e (hm.1 hh)]
      have e0:mN nr a c=0:=by omega
      have:LH (fun b=>mN nr a b*(mN nr b c*mN nr a c)) n=LH (fun _=>0) n:=EG fun b _=>by rw [e0]; simp
      rw [this,JG]; simp
  have hlen:=cQ (nr:=nr) (n:=n) n
  have hb:=pV hn (Nat.le_refl n)
  rw [AfQ (uC h hn).2.2 (by rw [hv,hcount]; unfold FP; show _∧((gA nr n n).length:Int)≤_; omega),hv,hcount]
set_option maxHeartbeats 2000000
variable {n:Nat} {g:AL}
def cS (r:Int):Bool:=decide (1≤r∧r≤8)
theorem uE {r:Int} {Q:Bool→Prop} (hQ:Q (cS r)):XH r Q:=by
  unfold XH
  unfold cS at hQ
  refine AC (fun h=>?_) (fun h=>?_)
  · simpa [h] using hQ
  · simpa [h] using hQ
def zP:BQ:={ Ring:=0,A:=({ Rows:=0,Cols:=0,Start:=([]:List Int),Col:=([]:List Int),Val:=([]:List Int) }:Rows),B:=({ Rows:=0,Cols:=0,Start:=([]:List Int),Col:=([]:List Int),Val:=([]:List Int) }:Rows),Mask:=({ Rows:=0,Cols:=0,Start:=([]:List Int),Col:=([]:List Int),Val:=([]:List Int) }:Rows),R:=0,C:=0,Room:=0 }
structure SmallG (g:AL) (n:Nat):Prop where
  right:IZ g=0
  N:g.N=n
  n30:n≤30
  len:g.Edges.length≤1000
theorem SmallG.down (h:SmallG g n):kE n (CR g) (DF (ES g)):=AhA h.right h.N h.n30 h.len
theorem SmallG.graph (h:SmallG g n):oQ (ES g)=(BO n n (DF (ES g)),0):=by
  obtain ⟨hP,hPl,_⟩:=pU h.N (TG h.right)
  have:=h.len
  have:=h.n30
  unfold oQ
  rw [if_pos (hP.right (by omega) (by omega)),hP.N]
def Ag4 (n:Nat) (T:List AD) (r c:Int):BQ:=⟨5,BO n n T,BO n n T,BO n n T,r,c,4⟩
def uF (g:AL) (n:Nat) (r c:Int):BQ×Int:=if cS r=true∧cS c=true then (Ag4 n (DF (ES g)) r c,0) else (zP,3)
theorem XU (h:SmallG g n) {r c:Int} {Q:BQ×Int→Prop} (hQ:Q (uF g n r c)):MI g r c Q:=by
  unfold MI
  refine NK ?_
  rw [h.right]
  unfold uF at hQ
  refine AN (by simp) (uE (CO (fun h1=>?_) (fun h1=>uE (CO (fun h2=>?_) (fun h2=>zD h.right (jB ?_))))))
  · rw [if_neg (by rw [h1]; simp)] at hQ; exact hQ
  · rw [if_neg (by rw [h2]; simp)] at hQ; exact hQ
  · rw [if_pos ⟨h1,h2⟩] at hQ
    rw [h.graph]
    refine jB ?_
    rw [h.graph]
    refine jB ?_
    rw [h.graph]
    exact hQ
def Ab8 (g:AL) (n:Nat) (r c:Int):Int×Int:=if cS r=true∧cS c=true then (((OQ (CR g) n).length:Int),0) else (0,3)
theorem kF (h:SmallG g n) {r c:Int} {Q:Int×Int→Prop} (hQ:Q (Ab8 g n r c)):YG g r c Q:=by
  unfold YG
  refine XU h ?_
  unfold uF
  unfold Ab8 at hQ
  by_cases hs:cS r=true∧cS c=true
  · rw [if_pos hs] at hQ ⊢
    refine AN rfl ?_
    unfold cS at hs
    simp only [decide_eq_true_eq] at hs
    obtain ⟨R,rfl⟩:∃ R:Nat,r=R:=⟨r.toNat,by omega⟩
    obtain ⟨C,rfl⟩:∃ C:Nat,c=C:=⟨c.toNat,by omega⟩
    have hD:=h.down
    generalize DF (ES g)=T at hD ⊢
    have hin:∀ t∈T,FP t.Val:=fun t ht=>hD.light.int ht
    have hd:DOk0 ⟨5,n,n,n,T,T,T,R,C,4,[]⟩:=
      ⟨by show (1:Int)≤5∧(5:Int)≤5; omega,hD.light.can,hD.light.can,hD.light.can,hin,hin,hin,by show 1≤R∧R≤8; omega,by show 1≤C∧C≤8; omega,by show 1≤4∧4≤64; omega⟩
    show PL (Data.p ⟨5,n,n,n,T,T,T,R,C,4,[]⟩) _
    refine AdK hd ?_
    show RP (Data.p ⟨5,n,n,n,T,T,T,R,C,4,[]⟩) _ _ _
    refine wN hd ?_
    obtain ⟨p1,p2,p3⟩:=uC hD h.n30
    have ed:VT 5 n n (eH ⟨5,n,n,n,T,T,T,R,C,4,[]⟩)=(BO n n (fP (T)),0):=p1
    show AQ ((VT 5 n n (eH ⟨5,n,n,n,T,T,T,R,C,4,[]⟩)).2 != 0) _ (SP 5 (VT 5 n n (eH ⟨5,n,n,n,T,T,T,R,C,4,[]⟩)).1 _)
    rw [ed]
    refine AN (by simp) (lE p2 p3 ?_)
    rw [wY hD h.n30]
    exact hQ
  · rw [if_neg hs] at hQ ⊢
    exact BF (by simp) hQ
def GT:AL:={ N:=4,Edges:=([({ From:=0,To:=1,W:=9 }:AM),({ From:=2,To:=1,W:=0 }:AM),({ From:=0,To:=2,W:=1 }:AM),({ From:=3,To:=3,W:=1 }:AM)]:List AM) }
theorem NP:SmallG GT 4:=⟨by decide,rfl,by omega,by decide⟩
theorem wZ:OQ (CR GT) 4=[(0,1,2)]:=by decide
theorem AhB:(DF (ES GT)).length=3:=by decide
theorem Ab9 {Q:Bool→Prop} (hQ:Q true):W8 Q:=by
  unfold W8
  refine kF (g:=GT) NP ?_
  show YG GT 0 1 _
  refine kF (g:=GT) NP ?_
  show MI GT 1 2 _
  refine XU (g:=GT) NP ?_
  have e1:Ab8 GT 4 2 2=(1,0):=by unfold Ab8; rw [if_pos (by decide),wZ]; rfl
  have e2:Ab8 GT 4 0 1=(0,3):=by unfold Ab8; rw [if_neg (by decide)]
  have e3:uF GT 4 1 2=(Ag4 4 (DF (ES GT)) 1 2,0):=by unfold uF; rw [if_pos (by decide)]
  rw [e1,e2,e3]
  refine BF rfl (BF rfl (BF rfl (BF rfl (BF ?_ (BF rfl ?_)))))
  · show (((DF (ES GT)).map (·.Val)).length:Int)==3
    rw [List.length_map,AhB]; rfl
  · show XI GT _
    refine fO NP.right NP.N NP.n30 ?_
    rw [wZ]
    refine AfO (by simp) (BF rfl ?_)
    show dQ GT _
    refine nJ NP.right NP.N NP.n30 ?_
    rw [wZ]
    have e4:ofT 4 [(0,1,2)]=[1,1,1,0]:=by decide
    rw [e4]
    exact Ab6 (by simp) hQ
theorem AbA {a:KB} {Q:(AL×Int×Int×Int)→Prop} (h:W9 a) (hQ:∀ (g:AL) (n:Nat) (v:Int) (R C:Nat),SmallG g n→n≤23→g.Edges.length≤60→0≤v→v<n→(1≤R∧R≤4)→(1≤C∧C≤4)→Q (g,v,(R:Int),(C:Int))):LR a Q:=by
  unfold LR
  obtain ⟨_,_,hR,hC⟩:=h
  refine AdO fun g hN hl hg=>?_
  obtain ⟨R,r1,r2,re⟩:=zA hR
  obtain ⟨C,c1,c2,ce⟩:=zA hC
  rw [re,ce]
  refine FH (fun s:Int×List AM=>∃ n:Nat,1≤n∧s.1=n∧SmallG ⟨s.1,s.2⟩ n∧n≤23∧s.2.length≤60) ?_ ?_
  · rintro ⟨N,E⟩ ⟨n,h1,h2,h3,h4,h5⟩
    simp only at h2 h3 h5 ⊢
    refine YR (fun h=>by omega) fun _ v v0 v1=>hQ ⟨N,E⟩ n v R C h3 h4 h5 v0 (by omega) ⟨r1,r2⟩ ⟨c1,c2⟩
  · intro k hk
    refine CU (fun h0=>hk _ ⟨1,by omega,rfl,⟨by decide,rfl,by omega,by simp⟩,by omega,by simp⟩) (fun h0=>?_)
    obtain ⟨n,hn⟩:∃ n:Nat,g.N=n:=⟨g.N.toNat,by omega⟩
    exact hk (g.N,g.Edges) ⟨n,by omega,hn,⟨hg,hn,by omega,by simp only; omega⟩,by omega,hl⟩
theorem xA (nr:Nat→Nat→Bool) (h:n≤30):(OQ nr n).length≤27000:=by
  have h1:=cQ (nr:=nr) (n:=n) n
  have h2:=pV h (Nat.le_refl n)
  show (gA nr n n).length≤_
  omega
def lt3 (s t:T3):Prop:=s.1<t.1∨s.1=t.1∧(s.2.1<t.2.1∨s.2.1=t.2.1∧s.2.2<t.2.2)
theorem AdZ (nr:Nat→Nat→Bool) (n:Nat):(OQ nr n).Pairwise lt3:=by
  show ((List.range n).flatMap fun a=>tB nr n a n).Pairwise lt3
  have hA:∀ a x,x∈tB nr n a n→x.1=(a:Int):=fun a x hx=>by
    rw [zJ] at hx
    obtain ⟨b,_,hx⟩:=List.mem_flatMap.1 hx
    obtain ⟨c,_,rfl⟩:=List.mem_map.1 hx
    rfl
  rw [List.pairwise_flatMap]
  refine ⟨fun a _=>?_,List.pairwise_lt_range.imp fun {a b} hab x hx y hy=>.inl (by rw [hA a x hx,hA b y hy]; omega)⟩
  rw [zJ,List.pairwise_flatMap]
  have hB:∀ b x,x∈tC nr a b n→x.1=(a:Int)∧x.2.1=(b:Int):=fun b x hx=>by
    obtain ⟨c,_,rfl⟩:=List.mem_map.1 hx
    exact ⟨rfl,rfl⟩
  refine ⟨fun b _=>?_,List.Pairwise.imp ?_ (List.Pairwise.filter _ List.pairwise_lt_range)⟩
  · unfold tC
    rw [List.pairwise_map]
    exact List.Pairwise.imp (fun {c d} hcd=>.inr ⟨rfl,.inr ⟨rfl,by simp only; omega⟩⟩) (List.Pairwise.filter _ List.pairwise_lt_range)
  · intro b b' hbb x hx y hy
    have h1:=hB b x hx
    have h2:=hB b' y hy
    exact .inr ⟨by rw [h1.1,h2.1],.inl (by rw [h1.2,h2.2]; omega)⟩
def uG (B:Int) (y:List Int):Prop:=∀ x∈y,0≤x∧x≤B
theorem zN:∀ (y:List Int) (i:Nat) (h:i<y.length) (x:Int),(y.set i x).sum=y.sum - y[i]+x
  | a :: y,0,_,x=>by simp; omega
  | a :: y,i+1,h,x=>by
    have:=zN y i (by simpa using h) x
    simp only [List.set_cons_succ,List.sum_cons,List.getElem_cons_succ]
    omega
theorem kG {y:List Int} {i B:Int} (h0:0≤i) (h1:i<y.length) (hc:uG B y) (hB:B≤1000000):(kB y i).sum=y.sum+1∧uG (B+1) (kB y i):=by
  have hlt:i.toNat<y.length:=by omega
  have ha:EQ y i=y[i.toNat]:=by simp [EQ,List.getD_eq_getElem?_getD,hlt]
  have hx:=hc _ (List.getElem_mem hlt)
  unfold kB
  rw [ha,AX (by omega) (by omega)]
  refine ⟨by rw [zN y _ hlt]; omega,fun z hz=>?_⟩
  rcases List.mem_or_eq_of_mem_set hz with hz | hz
  · have:=hc z hz; omega
  · omega
theorem Ae0 {y:List Int} {t:T3} {B:Int} (ht:okT y.length t) (hc:uG B y) (hB:B≤900000):(eK y t).sum=y.sum+3∧uG (B+3) (eK y t):=by
  obtain ⟨⟨a0,a1⟩,⟨b0,b1⟩,c0,c1⟩:=ht
  obtain ⟨s1,k1⟩:=kG a0 a1 hc (by omega)
  obtain ⟨s2,k2⟩:=kG (y:=kB y t.1) (i:=t.2.1) b0 (by rw [cR]; exact b1) k1 (by omega)
  obtain ⟨s3,k3⟩:=kG (y:=kB (kB y t.1) t.2.1) (i:=t.2.2) c0 (by rw [cR,cR]; exact c1) k2 (by omega)
  unfold eK
  refine ⟨by omega,?_⟩
  have:B+1+1+1=B+3:=by omega
  rw [this] at k3; exact k3
theorem uH:∀ (l:List T3) (y:List Int) (B:Int),(∀ t∈l,okT y.length t)→uG B y→B+3*l.length≤900000→(l.foldl eK y).sum=y.sum+3*l.length∧uG (B+3*l.length) (l.foldl eK y)
  | [],y,B,_,hc,_=>by simp; exact hc
  | t :: l,y,B,ht,hc,hB=>by
    rw [List.length_cons] at hB ⊢
    obtain ⟨h1,h2⟩:=Ae0 (ht t (by simp)) hc (by omega)
    obtain ⟨h3,h4⟩:=uH l (eK y t) (B+3) (fun x hx=>by rw [tY]; exact ht x (by simp [hx])) h2 (by omega)
    rw [List.foldl_cons]
    refine ⟨by rw [h3,h1]; omega,?_⟩
    have:B+3+3*(l.length:Int)=B+3*((l.length+1:Nat):Int):=by omega
    rw [this] at h4; exact h4
theorem zO {B:Int}:∀ {y:List Int},uG B y→0≤y.sum∧y.sum≤y.length*B
  | [],_=>by simp
  | a :: y,h=>by
    have h1:=h a (by simp)
    have h2:=zO (y:=y) fun x hx=>h x (by simp [hx])
    rw [List.sum_cons,List.length_cons]
    have:((y.length+1:Nat):Int)*B=y.length*B+B:=by rw [Int.natCast_succ,Int.add_mul,Int.one_mul]
    omega
theorem xB (a0:KB) (h0:W9 a0):UW a0 (fun r=>r=true):=by
  unfold UW
  refine AbA h0 fun g n v R C hg hn hl v0 v1 hR hC=>fO hg.right hg.N hg.n30 ?_
  have hlen:=xA (CR g) hg.n30
  have hsrt:=AdZ (CR g) n
  have hmem:∀ t∈OQ (CR g) n,t.1<t.2.1∧t.2.1<t.2.2:=fun t ht=>by
    obtain ⟨a,b,c,rfl,h,_⟩:=zL ht
    simp only; omega
  have hok:∀ t∈OQ (CR g) n,okT n t:=fun t ht=>AdX ht
  have hfold:=uH (OQ (CR g) n) (List.replicate n 0) 0 (fun t ht=>by rw [List.length_replicate]; exact hok t ht) (fun x hx=>by rw [(List.mem_replicate.1 hx).2]; omega) (by omega)
  dsimp only
  refine EC (OQ (CR g) n).length (by omega) (fun _=>True) trivial (fun i next hi _ hx=>?_) (fun next _=>?_)
  · have hm:=hmem _ (List.getElem_mem hi)
    refine BF (by simp; omega) (AV hi (AV hi (AC (fun h=>by omega) (fun _=>AV hi (AV hi (AC (fun h=>by omega) (fun _=>AC (fun hpos=>?_) (fun _=>hx trivial))))))))
    have hi1:i - 1<(OQ (CR g) n).length:=by omega
    have hlt:lt3 (OQ (CR g) n)[i - 1] (OQ (CR g) n)[i]:=List.pairwise_iff_getElem.1 hsrt (i - 1) i hi1 hi (by omega)
    have ew:AH ((i:Int) - 1)=((i - 1:Nat):Int):=by rw [AX (by omega) (by omega)]; omega
    rw [ew]
    unfold lt3 at hlt
    refine AV hi (AV hi1 (AC (fun h=>by omega) (fun h1=>AV hi (AV hi1 (CU (fun e1=>AV hi (AV hi1 (AC (fun h=>by omega) (fun h2=>AV hi (AV hi1 (CU (fun e2=>AV hi (AV hi1 (AC (fun h=>by omega) (fun h3=>hx trivial)))) (fun e2=>hx trivial))))))) (fun e1=>hx trivial))))))
  · refine AN (by simp) (nJ hg.right hg.N hg.n30 ?_)
    have hlo:(ofT n (OQ (CR g) n)).length=n:=by unfold ofT; rw [tZ]; simp
    have hsum:(ofT n (OQ (CR g) n)).sum=3*((OQ (CR g) n).length:Int):=by
      have:=hfold.1
      rw [List.sum_replicate_int] at this
      unfold ofT
      rw [this]; simp
    have hcap:uG (0+3*((OQ (CR g) n).length:Int)) (ofT n (OQ (CR g) n)):=hfold.2
    generalize ofT n (OQ (CR g) n)=y at hlo hsum hcap ⊢
    generalize (OQ (CR g) n).length=k at hlen hsum hcap ⊢
    refine AW (fun (s:Int) i=>(s,i)) 0 y.length (by omega) (fun i s=>s=(y.take i).sum) (by omega) rfl (fun i s nx _ hi hm hy=>?_) (fun s nx hm=>?_)
    · subst hm
      dsimp only
      have hn30:=hg.n30
      have h1:=zO (y:=y.take i) fun x hx=>hcap x (List.mem_of_mem_take hx)
      have h2:=hcap _ (List.getElem_mem hi)
      have h3:((y.take i).length:Int)*(0+3*(k:Int))≤30*81000:=Int.mul_le_mul (by rw [List.length_take]; omega) (by omega) (by omega) (by omega)
      refine BF (by simp; omega) (AV hi (hy _ ?_))
      rw [List.take_succ_eq_append_getElem hi,List.sum_append,AX (by omega) (by omega)]
      simp
    · subst hm
      dsimp only
      rw [List.take_length,hsum,AX (by omega) (by omega)]
      exact AN (by simp) (Ab9 (BF rfl (BF (by rw [hlo,hg.N]; simp) (by rw [AX (by omega) (by omega)]; simp))))
end Go.Proofs.YtbohadngdkjljaaGreat
