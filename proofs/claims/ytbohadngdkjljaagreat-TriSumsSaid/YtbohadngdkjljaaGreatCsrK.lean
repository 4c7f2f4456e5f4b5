import Derived.Test.YtbohadngdkjljaaGreatOK
import Derived.Test.YtbohadngdkjljaaGreatCsrE
namespace Go.Proofs.YtbohadngdkjljaaGreat
open Go Go.Fw
set_option linter.unusedVariables false
set_option linter.unusedSimpArgs false
def Ai2 (a:Rows) (i:Nat):Prop:=∀ j:Nat,EQ a.Start i≤j→(j:Int)<EQ a.Start ((i:Int)+1)→0≤EQ a.Col j∧EQ a.Col j<a.Cols∧(EQ a.Start i<j→EQ a.Col ((j:Int) - 1)<EQ a.Col j)
structure WE (a:Rows):Prop where
  r0:0≤a.Rows
  r1:a.Rows≤4096
  c0:0≤a.Cols
  c1:a.Cols≤4096
  sl:(a.Start.length:Int)=a.Rows+1
  vl:a.Val.length=a.Col.length
  cl:a.Col.length≤65536
  s0:EQ a.Start 0=0
  sn:EQ a.Start a.Rows=a.Col.length
  up:∀ i:Nat,(i:Int)<a.Rows→EQ a.Start i≤EQ a.Start ((i:Int)+1)
  row:∀ i:Nat,(i:Int)<a.Rows→Ai2 a i
noncomputable instance (a:Rows):Decidable (WE a):=Classical.propDecidable _
theorem AfZ {a:Rows} {n:Nat} (h:∀ i:Nat,i<n→EQ a.Start i≤EQ a.Start ((i:Int)+1)) {i j:Nat} (h1:i≤j) (h2:j≤n):EQ a.Start i≤EQ a.Start j:=by
  induction j with
  | zero => have : i = 0 := by omega
            subst this; exact Int.le_refl _
  | succ j ih=>
    by_cases e:i=j+1
    · subst e; exact Int.le_refl _
    · have:=ih (by omega) (by omega)
      have h3:=h j (by omega)
      have:((j+1:Nat):Int)=(j:Int)+1:=by omega
      rw [this]; omega
theorem AeJ {x y:Int} {Q:Bool→Prop} (h:Q (decide (x<y))):QQ x y Q:=by
  unfold QQ HF
  exact AN (by simp) h
theorem rR {xs:List Int} {Q:Bool→Prop} (hl:xs.length≤1000000000) (h1:(∀ i:Nat,i+1<xs.length→EQ xs i≤EQ xs ((i:Int)+1))→Q true) (h2:(∃ i:Nat,i+1<xs.length∧¬EQ xs i≤EQ xs ((i:Int)+1))→Q false):FD xs Q:=by
  unfold FD
  rw [AX (by omega) (by omega)]
  by_cases h0:xs.length=0
  · refine EB (fun s:Int=>s = -1) (fun _=>0) (by omega) (fun s next hs hn=>?_)
    subst hs
    exact AC (fun h=>by omega) (fun _=>h1 fun i hi=>by omega)
  refine EB (fun s:Int=>∃ j:Nat,s=j∧j<xs.length∧∀ i:Nat,j≤i→i+1<xs.length→EQ xs i≤EQ xs ((i:Int)+1)) (fun s=>s.toNat) ⟨xs.length - 1,by omega,by omega,fun i hi h=>by omega⟩ ?_
  rintro _ next ⟨j,rfl,hj,hR⟩ hn
  refine AC (fun h=>?_) (fun h=>h1 fun i hi=>hR i (by omega) hi)
  obtain ⟨j,rfl⟩:∃ q,j=q+1:=⟨j - 1,by omega⟩
  have e:AH (((j+1:Nat):Int) - 1)=(j:Int):=by rw [AX (by omega) (by omega)]; omega
  rw [e]
  refine FZ (by omega) (by omega) (FZ (by omega) (by omega) (AeJ (AC (fun hlt=>h2 ⟨j,by omega,?_⟩) (fun hlt=>hn _ ⟨j,rfl,by omega,fun i hi h=>?_⟩ (by omega)))))
  · have:((j+1:Nat):Int)=(j:Int)+1:=by omega
    rw [this] at hlt; omega
  · by_cases e:i=j
    · subst e
      have:((i+1:Nat):Int)=(i:Int)+1:=by omega
      rw [this] at hlt; omega
    · exact hR i (by omega) h
theorem AeK {xs:List Int} {lo hi:Int} {j:Nat} (h0:0≤lo) (h1:lo≤hi) (h2:hi≤xs.length) (hj:lo+j<hi):EQ ((xs.take hi.toNat).drop lo.toNat) j=EQ xs (lo+j):=by
  unfold EQ
  simp only [List.getD_eq_getElem?_getD,List.getElem?_drop,Int.toNat_natCast]
  rw [List.getElem?_take_of_lt (by omega)]
  congr 2; omega
theorem AeL {α:Type} {xs:List α} {lo hi:Int} (h0:0≤lo) (h1:lo≤hi) (h2:hi≤xs.length):((xs.take hi.toNat).drop lo.toNat).length=(hi - lo).toNat:=by
  simp only [List.length_drop,List.length_take]; omega
theorem AgM {xs:List Int} {cols:Int} {Q:Bool→Prop} (hc0:0≤cols) (hc1:cols≤4096) (hl:xs.length≤1000000000)
    (h1:(∀ j:Nat,j<xs.length→0≤EQ xs j∧EQ xs j<cols∧(0<j→EQ xs ((j:Int) - 1)<EQ xs j))→Q true) (h2:(∃ j:Nat,j<xs.length∧¬(0≤EQ xs j∧EQ xs j<cols∧(0<j→EQ xs ((j:Int) - 1)<EQ xs j)))→Q false):gP xs cols Q:=by
  unfold gP
  rw [AX (by omega) (by omega)]
  refine EC xs.length (by omega) (fun i=>∀ j:Nat,j<i→j<xs.length→0≤EQ xs j∧EQ xs j<cols∧(0<j→EQ xs ((j:Int) - 1)<EQ xs j)) (by simp) (fun i next hi hR hn=>?_) (fun next hR=>?_)
  · refine AC (fun _=>?_) (fun h=>by omega)
    refine FZ (by omega) (by omega) (JE (CO (fun h=>h2 ⟨i,hi,fun hh=>?_⟩) (fun h=>?_)))
    · simp at h; omega
    have h:0≤EQ xs i∧EQ xs i≤cols - 1:=by simpa using h
    have hstep (hx:0<i→EQ xs ((i:Int) - 1)<EQ xs i):next (AH ((i:Int)+1)):=hn fun j hj hjl=>by
      by_cases e:j=i
      · subst e; exact ⟨h.1,by omega,hx⟩
      · exact hR j (by omega) hjl
    refine AC (fun h0=>?_) (fun h0=>hstep fun h=>by omega)
    rw [AX (by omega) (by omega)]
    refine FZ (by omega) (by omega) (AC (fun hle=>h2 ⟨i,hi,fun hh=>?_⟩) (fun hle=>hstep fun _=>by omega))
    have:=hh.2.2 (by omega); omega
  · exact AC (fun h=>by omega) (fun _=>h1 fun j hj=>hR j hj hj)
theorem bT {a:Rows} {Q:Bool→Prop} (hl:small a) (hQ:Q (decide (WE a))):HP a Q:=by
  unfold HP
  have hno (h:¬WE a):Q false:=by rwa [decide_eq_false h] at hQ
  have hyes (h:WE a):Q true:=by rwa [decide_eq_true h] at hQ
  unfold small at hl
  refine JE (CO (fun h=>hno fun hh=>?_) (fun h=>?_))
  · have:=hh.r0; have:=hh.r1; simp at h; omega
  have h1:0≤a.Rows∧a.Rows≤4096:=by simpa using h
  refine JE (CO (fun h=>hno fun hh=>?_) (fun h=>?_))
  · have:=hh.c0; have:=hh.c1; simp at h; omega
  have h2:0≤a.Cols∧a.Cols≤4096:=by simpa using h
  rw [AX (by omega) (by omega)]
  refine FR (fun h=>hno fun hh=>h hh.sl) (fun h3=>?_)
  refine FR (fun h=>hno fun hh=>h (by rw [hh.vl])) (fun h4=>?_)
  refine AC (fun h=>hno fun hh=>by have:=hh.cl; omega) (fun h5=>?_)
  refine FZ (by omega) (by omega) (FR (fun h=>hno fun hh=>h hh.s0) (fun h6=>?_))
  refine FZ (by omega) (by omega) (FR (fun h=>hno fun hh=>h hh.sn) (fun h7=>?_))
  obtain ⟨n,hn⟩:∃ n:Nat,a.Rows=n:=⟨a.Rows.toNat,by omega⟩
  have hsl:a.Start.length=n+1:=by omega
  refine rR (by omega) (fun hup=>AN rfl ?_) (fun hb=>BF rfl (hno fun hh=>?_))
  rotate_left
  · obtain ⟨i,hi,hbad⟩:=hb
    exact hbad (hh.up i (by omega))
  have hup':∀ i:Nat,i<n→EQ a.Start i≤EQ a.Start ((i:Int)+1):=fun i hi=>hup i (by omega)
  rw [hn] at h7 ⊢
  refine EC n (by omega) (fun i=>∀ j:Nat,j<i→Ai2 a j) (by simp) (fun i next hi hR hnx=>?_) (fun next hR=>?_)
  · refine AC (fun _=>?_) (fun h=>by omega)
    have e1:AH ((i:Int)+1)=(i:Int)+1:=AX (by omega) (by omega)
    rw [e1] at hnx ⊢
    have hlo:0≤EQ a.Start i:=by have:=AfZ hup' (i:=0) (j:=i) (by omega) (by omega); rw [show ((0:Nat):Int)=0 from rfl,h6] at this; exact this
    have hhi:EQ a.Start ((i:Int)+1)≤a.Col.length:=by
      have:=AfZ hup' (i:=i+1) (j:=n) (by omega) (by omega)
      rw [h7,show ((i+1:Nat):Int)=(i:Int)+1 by omega] at this; exact this
    have hm:=hup' i hi
    refine FZ (by omega) (by omega) (FZ (by omega) (by omega) ⟨hlo,hm,hhi,?_⟩)
    have hsl2:=AeL hlo hm hhi
    have heq:∀ j:Nat,EQ a.Start i+j<EQ a.Start ((i:Int)+1)→EQ ((a.Col.take (EQ a.Start ((i:Int)+1)).toNat).drop (EQ a.Start i).toNat) j=EQ a.Col (EQ a.Start i+j):=fun j hj=>AeK hlo hm hhi hj
    refine AgM (by omega) (by omega) (by rw [hsl2]; omega) (fun hall=>AN rfl (hnx fun j hj=>?_)) (fun hb=>BF rfl (hno fun hh=>?_))
    · by_cases e:j=i
      · subst e
        intro p hp1 hp2
        obtain ⟨q,hq⟩:∃ q:Nat,(p:Int)=EQ a.Start j+q:=⟨(p - EQ a.Start j).toNat,by omega⟩
        have hr:=hall q (by rw [hsl2]; omega)
        rw [heq q (by omega),←hq] at hr
        refine ⟨hr.1,hr.2.1,fun hlt=>?_⟩
        have:=hr.2.2 (by omega)
        rw [show (q:Int) - 1=((q - 1:Nat):Int) by omega,heq (q - 1) (by omega),show EQ a.Start j+((q - 1:Nat):Int)=(p:Int) - 1 by omega] at this
        exact this
      · exact hR j (by omega)
    · obtain ⟨q,hq,hbad⟩:=hb
      rw [hsl2] at hq
      apply hbad
      have hr:=hh.row i (by omega) (EQ a.Start i+q).toNat (by omega) (by omega)
      have ep:(((EQ a.Start i+q).toNat:Nat):Int)=EQ a.Start i+q:=by omega
      rw [ep] at hr
      rw [heq q (by omega)]
      refine ⟨hr.1,hr.2.1,fun h0=>?_⟩
      have:=hr.2.2 (by omega)
      rw [show (q:Int) - 1=((q - 1:Nat):Int) by omega,heq (q - 1) (by omega),show EQ a.Start i+((q - 1:Nat):Int)=EQ a.Start i+q - 1 by omega]
      exact this
  · refine AC (fun h=>by omega) (fun _=>hyes ⟨h1.1,h1.2,h2.1,h2.2,h3,by omega,by omega,h6,by rw [hn]; exact h7,fun i hi=>hup' i (by omega),fun i hi=>hR i (by omega)⟩)
def key (t:AD):EX:=(t.Row,t.Col)
def Srt (ts:List AD):Prop:=ts.Pairwise fun a b=>TS (key a) (key b)
structure Canon (rows cols:Int) (ts:List AD):Prop where
  r0:0≤rows
  r1:rows≤4096
  c0:0≤cols
  c1:cols≤4096
  len:ts.length≤65536
  srt:Srt ts
  inn:∀ t∈ts,ZB rows cols t
theorem iY {α:Type} {q:α→Bool}:∀ {l:List α},l.Pairwise (fun a b=>q b=true→q a=true)→∀ (i:Nat) (h:i<l.length),(q l[i]=true↔i<l.countP q)
  | [],_,i,h=>by simp at h
  | a :: l,hp,i,h=>by
    rw [List.pairwise_cons] at hp
    rw [List.countP_cons]
    by_cases ha:q a=true
    · rw [if_pos ha]
      cases i with
      | zero=>simp [ha]
      | succ i=>
        have:=iY hp.2 i (by simpa using h)
        simp only [List.getElem_cons_succ]
        rw [this]; omega
    · rw [if_neg ha]
      have hz:l.countP q=0:=List.countP_eq_zero.2 fun b hb h'=>ha (hp.1 b hb h')
      rw [hz]
      refine ⟨fun h'=>absurd ?_ ha,fun h=>by omega⟩
      cases i with
      | zero=>exact h'
      | succ i=>exact hp.1 _ (List.getElem_mem _) h'
theorem Srt.row {ts:List AD} (h:Srt ts) (v:Nat) (p:Nat) (hp:p<ts.length):ts[p].Row<v↔(p:Int)<GK ts v:=by
  have:=iY (q:=fun t:AD=>decide (t.Row<(v:Int))) (l:=ts) (List.Pairwise.imp (fun {a b} hab=>by
    simp only [decide_eq_true_eq]
    unfold TS key at hab
    simp only at hab
    omega) h) p hp
  simp only [decide_eq_true_eq] at this
  rw [this]; unfold GK; omega
theorem AgN {f:Nat→Int} {n:Nat} {i:Int} (h0:0≤i) (h:i<n):EQ ((List.range n).map f) i=f i.toNat:=by
  unfold EQ
  rw [List.getD_eq_getElem?_getD,SX (by omega)]; rfl
theorem yG {α:Type} {f:α→Int} {xs:List α} {i:Int} (h0:0≤i) (h:i<xs.length):EQ (xs.map f) i=f (xs[i.toNat]'(by omega)):=by
  unfold EQ
  simp [List.getD_eq_getElem?_getD,show i.toNat<xs.length by omega]
theorem XJ {rows cols:Int} {ts:List AD} {i:Int} (h0:0≤i) (h:i≤rows):EQ (BO rows cols ts).Start i=GK ts i.toNat:=AgN h0 (by omega)
theorem dR {rows cols:Int} {ts:List AD} (h:Canon rows cols ts):GK ts rows.toNat=ts.length:=by
  have h0:=h.r0
  unfold GK
  rw [List.countP_eq_length.2]
  intro t ht
  have:=h.inn t ht
  unfold ZB at this
  simp; omega
theorem ZT {ts:List AD} (h:∀ t∈ts,0≤t.Row):GK ts 0=0:=by
  unfold GK
  rw [List.countP_eq_zero.2]; · rfl
  intro t ht
  have:=h t ht
  simp; omega
theorem Srt.at {ts:List AD} (h:Srt ts) {i p:Nat} (hp:p<ts.length):ts[p].Row=i↔GK ts i≤p∧(p:Int)<GK ts (i+1):=by
  have h1:=h.row i p hp
  have h2:=h.row (i+1) p hp
  omega
theorem Canon.right {rows cols:Int} {ts:List AD} (h:Canon rows cols ts):WE (BO rows cols ts) where
  r0:=h.r0
  r1:=h.r1
  c0:=h.c0
  c1:=h.c1
  sl:=by have:=h.r0; simp [BO]; omega
  vl:=by simp [BO]
  cl:=by simpa [BO] using h.len
  s0:=by
    have:=h.r0
    rw [XJ (by omega) (by omega)]
    exact ZT fun t ht=>(h.inn t ht).1
  sn:=by
    have:=h.r0
    show EQ (BO rows cols ts).Start rows=_
    rw [XJ (by omega) (by omega),dR h]; simp [BO]
  up i hi:=by
    have hi:(i:Int)<rows:=hi
    rw [XJ (by omega) (by omega),XJ (by omega) (by omega)]
    have e1:((i:Int)).toNat=i:=by omega
    have e2:((i:Int)+1).toNat=i+1:=by omega
    rw [e1,e2,WD i ts fun t ht=>(h.inn t ht).1]
    have:=bS ts (i+1)
    omega
  row i hi:=by
    have hi:(i:Int)<rows:=hi
    intro j hj1 hj2
    rw [XJ (by omega) (by omega)] at hj1 hj2 ⊢
    have e1:((i:Int)).toNat=i:=by omega
    have e2:((i:Int)+1).toNat=i+1:=by omega
    rw [e1] at hj1 ⊢
    rw [e2] at hj2
    have hb:=bR ts (i+1)
    have hjl:j<ts.length:=by omega
    have hc:EQ (BO rows cols ts).Col j=ts[j].Col:=by
      show EQ (ts.map (·.Col)) j=_
      rw [yG (by omega) (by omega)]; rfl
    have hin:=h.inn _ (List.getElem_mem hjl)
    have hr:=(h.srt.at hjl (i:=i)).2 ⟨hj1,hj2⟩
    unfold ZB at hin
    refine ⟨by rw [hc]; omega,by rw [hc]; exact hin.2.2.2,fun hlt=>?_⟩
    obtain ⟨q,rfl⟩:∃ q,j=q+1:=⟨j - 1,by have:=bR ts i; omega⟩
    have hc2:EQ (BO rows cols ts).Col (((q+1:Nat):Int) - 1)=ts[q].Col:=by
      show EQ (ts.map (·.Col)) _=_
      rw [yG (by omega) (by omega)]
      simp
    have hr2:=(h.srt.at (show q<ts.length by omega) (i:=i)).2 ⟨by omega,by omega⟩
    have hs:=List.pairwise_iff_getElem.1 h.srt q (q+1) (by omega) hjl (by omega)
    unfold TS key at hs
    simp only at hs
    rw [hc,hc2]; omega
theorem rS:Canon 0 0 []:=⟨by omega,by omega,by omega,by omega,by simp,.nil,by simp⟩
noncomputable def fH (a:Rows):Rows:=if WE a then a else BO 0 0 []
theorem oN {a:Rows} {Q:Rows→Prop} (hl:small a) (hQ:Q (fH a)):VH a Q:=by
  unfold VH VG
  unfold fH at hQ
  refine bT hl (AC (fun h=>?_) (fun h=>?_))
  · rwa [if_pos h] at hQ
  · rw [if_neg h] at hQ
    exact ⟨by decide,by decide,hQ⟩
def KP (ts:List AD) (i:Nat):List AD:=ts.filter fun t=>decide (t.Row=i)
theorem AgO {ts:List AD} (h:Srt ts) (i:Nat) {lo hi:Nat} (hlo:GK ts i=lo) (hhi:GK ts (i+1)=hi) (hle:lo≤hi) (hl:hi≤ts.length):(ts.take hi).drop lo=KP ts i:=by
  have e:ts=ts.take lo++((ts.take hi).drop lo++ts.drop hi):=by
    have h1:ts.take lo=(ts.take hi).take lo:=by rw [List.take_take,Nat.min_eq_left hle]
    rw [←List.append_assoc,h1,List.take_append_drop,List.take_append_drop]
  have hr:∀ (p:Nat) (hp:p<ts.length),ts[p].Row=i↔lo≤p∧p<hi:=fun p hp=>by have:=h.at (i:=i) hp; omega
  unfold KP
  conv=>rhs; rw [e]
  rw [List.filter_append,List.filter_append,List.filter_eq_nil_iff.2,List.filter_eq_self.2,List.filter_eq_nil_iff.2]
  · simp
  · intro t ht
    obtain ⟨j,hj,rfl⟩:=List.getElem_of_mem ht
    simp only [List.getElem_drop,decide_eq_true_eq]
    rw [hr]; omega
  · intro t ht
    obtain ⟨j,hj,rfl⟩:=List.getElem_of_mem ht
    simp only [List.getElem_drop,List.getElem_take,decide_eq_true_eq]
    simp only [List.length_drop,List.length_take] at hj
    rw [hr]; omega
  · intro t ht
    obtain ⟨j,hj,rfl⟩:=List.getElem_of_mem ht
    simp only [List.getElem_take,decide_eq_true_eq]
    simp only [List.length_take] at hj
    rw [hr]; omega
structure Seg (ts:List AD) (i l u:Nat):Prop where
  lo:GK ts i=l
  hi:GK ts (i+1)=u
  le:l≤u
  len:u≤ts.length
  eq:(ts.take u).drop l=KP ts i
  row:∀ (p:Nat) (hp:p<ts.length),l≤p→p<u→ts[p].Row=i
theorem Canon.seg {rows cols:Int} {ts:List AD} (h:Canon rows cols ts) (i:Nat):∃ lo hi,Seg ts i lo hi:=by
  have hs:=WD i ts fun t ht=>(h.inn t ht).1
  have ha:=bS ts (i+1)
  have hb:=bR ts (i+1)
  obtain ⟨lo,hlo⟩:∃ lo:Nat,GK ts i=lo:=⟨_,rfl⟩
  obtain ⟨hi,hhi⟩:∃ hi:Nat,GK ts (i+1)=hi:=⟨_,rfl⟩
  exact ⟨lo,hi,hlo,hhi,by omega,by omega,AgO h.srt i hlo hhi (by omega) (by omega),fun p hp h1 h2=>by have:=h.srt.at (i:=i) hp; omega⟩
theorem Canon.sml {rows cols:Int} {ts:List AD} (h:Canon rows cols ts):small (BO rows cols ts):=by
  have:=h.r0; have:=h.r1; have:=h.len
  unfold small BO; simp; omega
theorem YI {rows cols:Int} {ts:List AD} {i:Nat} {K:Int→Prop} (h:(i:Int)≤rows) (hk:K (GK ts i)):BA (BO rows cols ts).Start (i:Int) K:=
  AO (by omega) (SX (by simp; omega)) hk
theorem yH {rows cols:Int} {ts:List AD} {i:Nat} {Q:List Int×List Int→Prop} (h:Canon rows cols ts) (hi:(i:Int)<rows) (hQ:Q ((KP ts i).map (·.Col),(KP ts i).map (·.Val))):XD (BO rows cols ts) i Q:=by
  unfold XD
  have hr:=h.r1
  obtain ⟨lo,hi',s⟩:=h.seg i
  have e1:AH ((i:Int)+1)=(i+1:Nat):=by rw [AX (by omega) (by omega)]; omega
  rw [e1]
  refine YI (by omega) (YI (by omega) ?_)
  rw [s.lo,s.hi]
  have h1:=s.le; have h2:=s.len
  have hc:(BO rows cols ts).Col.length=ts.length:=by simp [BO]
  have hv:(BO rows cols ts).Val.length=ts.length:=by simp [BO]
  refine ⟨by omega,by omega,by omega,by omega,by omega,by omega,?_⟩
  simp only [Int.toNat_natCast,BO,←List.map_take,←List.map_drop,s.eq]
  exact hQ
def WT (t:AD):DS:=⟨t.Col,t.Val⟩
def AeM (rows:Int) (ts:List AD) (i:Int):List DS:=if 0≤i∧i<rows then (KP ts i.toNat).map WT else []
theorem SY (ts:List AD) (i:Nat):(KP ts i).length≤ts.length:=List.length_filter_le _ _
theorem vU {a:Rows} {rows cols i:Int} {ts:List AD} {Q:List DS→Prop} (hl:small a) (ha:fH a=BO rows cols ts) (h:Canon rows cols ts) (hQ:Q (AeM rows ts i)):gQ a i Q:=by
  unfold gQ
  have hr0:=h.r0; have hr1:=h.r1; have hlen:=h.len
  refine oN hl ?_
  rw [ha]
  have e:AH ((BO rows cols ts).Rows - 1)=rows - 1:=AX (by show -9223372036854775808≤rows - 1; omega) (by show rows - 1≤9223372036854775807; omega)
  rw [e]
  unfold AeM at hQ
  refine JE (CO (fun hn=>?_) (fun hy=>?_))
  · have hn:¬(0≤i∧i≤rows - 1):=by simpa using hn
    rw [if_neg (by omega)] at hQ; exact hQ
  have hy:0≤i∧i≤rows - 1:=by simpa using hy
  rw [if_pos (by omega)] at hQ
  obtain ⟨n,rfl⟩:∃ n:Nat,i=n:=⟨i.toNat,by omega⟩
  rw [Int.toNat_natCast] at hQ
  refine yH h (by omega) ?_
  have hs:=SY ts n
  generalize KP ts n=xs at hQ hs
  refine AW (fun (s:List DS) i=>(s,i)) 0 xs.length (by omega) (fun i s=>s=(xs.take i).map WT) (by omega) rfl (fun i s next _ hi hm hn=>?_) (fun s next hm=>?_)
  · subst hm
    dsimp only
    refine AC (fun _=>?_) (fun h=>by simp at h; omega)
    refine AO (by omega) (x:=xs[i].Col) (by simp [hi]) (AO (by omega) (x:=xs[i].Val) (by simp [hi]) (BG ?_ (hn _ ?_)))
    · simp; omega
    · rw [HT hi]; rfl
  · subst hm
    dsimp only
    refine AC (fun h=>by simp at h) (fun _=>?_)
    rw [List.take_length]; exact hQ
theorem SZ {a:Rows} {rows cols:Int} {ts:List AD} {Q:List AD→Prop} (hl:small a) (ha:fH a=BO rows cols ts) (h:Canon rows cols ts) (hQ:Q ts):KC a Q:=by
  unfold KC
  have hr0:=h.r0; have hr1:=h.r1; have hlen:=h.len
  refine oN hl ?_
  rw [ha]
  obtain ⟨n,hn⟩:∃ n:Nat,rows=n:=⟨rows.toNat,by omega⟩
  have hrw:(BO rows cols ts).Rows=n:=hn
  rw [hrw]
  refine AW (fun (s:List AD) i=>(s,i)) 0 n (by omega) (fun i s=>s=ts.take (GK ts i).toNat) (by omega) (s0:=[]) (by rw [ZT fun t ht=>(h.inn t ht).1]; rfl) (fun i s next _ hi hm hnx=>?_) (fun s next hm=>?_)
  · subst hm
    dsimp only
    refine AC (fun _=>?_) (fun h=>by omega)
    refine yH h (by omega) ?_
    obtain ⟨lo,hi',s⟩:=h.seg i
    have g1:=s.le; have g2:=s.len
    rw [s.lo,Int.toNat_natCast]
    have hsl:(KP ts i).length=hi' - lo:=by rw [←s.eq]; simp; omega
    have hgt:∀ (j:Nat) (hj:j<(KP ts i).length),(KP ts i)[j]=ts[lo+j]'(by omega):=fun j hj=>by simp [←s.eq]
    refine AW (fun (s:List AD) i=>(s,i)) 0 (KP ts i).length (by omega) (fun j st=>st=ts.take (lo+j)) (by omega) (by simp) (fun j st nx _ hj hm hnj=>?_) (fun st nx hm=>?_)
    · subst hm
      dsimp only
      refine AC (fun _=>?_) (fun h=>by simp at h; omega)
      have hpl:lo+j<ts.length:=by omega
      refine AO (by omega) (x:=ts[lo+j].Col) (by simp [hj,hgt]) (AO (by omega) (x:=ts[lo+j].Val) (by simp [hj,hgt]) (BG ?_ (hnj _ ?_)))
      · simp; omega
      · rw [show lo+(j+1)=lo+j+1 by omega,List.take_succ_eq_append_getElem hpl]
        congr 2
        have:=s.row (lo+j) hpl (by omega) (by omega)
        rw [←this]
    · subst hm
      dsimp only
      refine AC (fun h=>by simp at h) (fun _=>hnx _ ?_)
      rw [s.hi,hsl,Int.toNat_natCast]; congr 1; omega
  · subst hm
    dsimp only
    refine AC (fun h=>by omega) (fun _=>?_)
    have hb:=dR h
    rw [hn,Int.toNat_natCast] at hb
    rw [hb,Int.toNat_natCast,List.take_length]; exact hQ
theorem Srt.nodup {l:List AD} (h:Srt l):l.Nodup:=by
  rw [List.nodup_iff_pairwise_ne]
  exact List.Pairwise.imp (R:=fun a b=>TS (key a) (key b)) (fun {a b} hab (e:a=b)=>GG (key b) (by rw [e] at hab; exact hab)) h
theorem AeN {l l':List AD} (h:Srt l) (h':Srt l') (he:∀ t,t∈l↔t∈l'):l=l':=
  dO ((List.perm_ext_iff_of_nodup h.nodup h'.nodup).2 he) h h' fun a b _ _ h1 h2=>absurd (MK h1 h2) (GG _)
theorem MA {rows cols:Int} {ts:List AD} (h:Canon rows cols ts):fH (BO rows cols ts)=BO rows cols ts:=by
  unfold fH; rw [if_pos h.right]
def kZ (l:Int):Int:=if 0 > l then 0 else l
def qG (h n:Int):Int:=if n<h then n else h
def ext (l h n:Int):Int:=if kZ l<qG h n then qG h n - kZ l else 0
def LG (l h c d:Int) (ts:List AD):List AD:=(ts.filter fun t=>decide ((l≤t.Row∧t.Row<h)∧(c≤t.Col∧t.Col<d))).map fun t=>⟨t.Row - l,t.Col - c,t.Val⟩
def oO (rows cols:Int) (ts:List AD) (p q:Int×Int):Rows:=BO (ext p.1 p.2 rows) (ext q.1 q.2 cols) (LG (kZ p.1) (qG p.2 rows) (kZ q.1) (qG q.2 cols) ts)
theorem iZ (l h n:Int) (hn:0≤n) (h1:n≤4096):0≤ext l h n∧ext l h n≤n∧0≤kZ l∧qG h n≤n:=by
  unfold ext kZ qG; (repeat' split) <;> omega
theorem mH {rows cols:Int} {ts:List AD} (h:Canon rows cols ts) (p q:Int×Int):Canon (ext p.1 p.2 rows) (ext q.1 q.2 cols) (LG (kZ p.1) (qG p.2 rows) (kZ q.1) (qG q.2 cols) ts):=by
  have h1:=iZ p.1 p.2 rows h.r0 h.r1
  have h2:=iZ q.1 q.2 cols h.c0 h.c1
  have h3:=h.r1; have h4:=h.c1
  refine ⟨by omega,by omega,by omega,by omega,?_,?_,?_⟩
  · have:=h.len
    unfold LG
    rw [List.length_map]
    exact Nat.le_trans (List.length_filter_le _ _) this
  · unfold Srt LG
    rw [List.pairwise_map]
    refine List.Pairwise.imp (fun {a b} hab=>?_) (List.Pairwise.filter (R:=fun a b=>TS (key a) (key b)) _ h.srt)
    unfold TS key at *
    simp only at *
    omega
  · intro t ht
    obtain ⟨u,hu,rfl⟩:=List.mem_map.1 ht
    have hc:=(List.mem_filter.1 hu).2
    simp only [decide_eq_true_eq] at hc
    have e1:ext p.1 p.2 rows=qG p.2 rows - kZ p.1:=by unfold ext; rw [if_pos (by omega)]
    have e2:ext q.1 q.2 cols=qG q.2 cols - kZ q.1:=by unfold ext; rw [if_pos (by omega)]
    unfold ZB
    simp only
    omega
theorem mI {p:Int×Int} {n:Int} {Q:Int×Int→Prop} (h0:0≤n) (h1:n≤4096) (hQ:Q (kZ p.1,ext p.1 p.2 n)):SF p n Q:=by
  unfold SF
  show AQ (decide (qG p.2 n≤kZ p.1)) (Q (kZ p.1,0)) (Q (kZ p.1,AH (qG p.2 n - kZ p.1)))
  have hb:=iZ p.1 p.2 n h0 h1
  unfold ext at hQ
  refine AC (fun h=>?_) (fun h=>?_)
  · rwa [if_neg (by omega)] at hQ
  · rw [if_pos (by omega)] at hQ
    rwa [AX (by omega) (by omega)]
def jA (c d:Int) (t:AD):Bool:=decide (c≤t.Col∧t.Col<d)
def shf (l c:Int) (t:AD):AD:=⟨t.Row - l,t.Col - c,t.Val⟩
theorem Ac6 {ts:List AD} (h:Srt ts) (l c d:Int) (v:Nat) (hv:l≤v):LG l ((v:Int)+1) c d ts=LG l v c d ts++((KP ts v).filter (jA c d)).map (shf l c):=by
  unfold LG
  rw [show (fun t:AD=>(⟨t.Row - l,t.Col - c,t.Val⟩:AD))=shf l c from rfl,←List.map_append]
  congr 1
  refine AeN (List.Pairwise.filter _ h) (List.pairwise_append.2 ⟨List.Pairwise.filter _ h,List.Pairwise.filter _ (List.Pairwise.filter _ h),fun a ha b hb=>?_⟩) fun t=>?_
  · have h1:=(List.mem_filter.1 ha).2
    have h2:=(List.mem_filter.1 (List.mem_filter.1 hb).1).2
    simp only [decide_eq_true_eq] at h1 h2
    unfold TS key
    simp only
    omega
  · unfold KP jA
    simp only [List.mem_append,List.mem_filter,decide_eq_true_eq]
    constructor
    · rintro ⟨h1,h2⟩
      by_cases e:t.Row=v
      · exact .inr ⟨⟨h1,e⟩,h2.2⟩
      · exact .inl ⟨h1,by omega,h2.2⟩
    · rintro (⟨h1,h2⟩ | ⟨⟨h1,h2⟩,h3⟩)
      · exact ⟨h1,by omega,h2.2⟩
      · exact ⟨h1,by omega,h3⟩
theorem oP {ts:List AD} {l h c d:Int} (hh:h≤l):LG l h c d ts=[]:=by
  unfold LG
  rw [List.filter_eq_nil_iff.2]; · rfl
  intro t ht
  simp only [decide_eq_true_eq]; omega
theorem WF {a:Rows} {rows cols:Int} {ts:List AD} {p q:Int×Int} {Q:Rows→Prop} (hl:small a) (ha:fH a=BO rows cols ts) (h:Canon rows cols ts) (hQ:Q (oO rows cols ts p q)):LP a p q Q:=by
  unfold LP
  have hlen:=h.len
  have hr1:=h.r1; have hc1:=h.c1
  have b1:=iZ p.1 p.2 rows h.r0 h.r1
  have b2:=iZ q.1 q.2 cols h.c0 h.c1
  refine oN hl ?_
  rw [ha]
  refine mI h.r0 h.r1 (mI h.c0 h.c1 ?_)
  show BD _ _
  have hcan:=mH h p q
  unfold oO at hQ
  have hrl:(BO rows cols ts).Rows=rows:=rfl
  have hcl:(BO rows cols ts).Cols=cols:=rfl
  rw [hcl,hrl]
  generalize hL:kZ p.1=L at *
  generalize hH:qG p.2 rows=H at *
  generalize hC:kZ q.1=C at *
  generalize hD:qG q.2 cols=D at *
  have eE:ext p.1 p.2 rows=if L<H then H - L else 0:=by unfold ext; rw [hL,hH]
  have eF:ext q.1 q.2 cols=if C<D then D - C else 0:=by unfold ext; rw [hC,hD]
  generalize ext p.1 p.2 rows=E at *
  generalize ext q.1 q.2 cols=F at *
  dsimp only
  obtain ⟨n,hn⟩:∃ n:Nat,E=n:=⟨E.toNat,by omega⟩
  rw [hn]
  refine AW (fun (s:List AD) i=>(s,i)) 0 n (by omega) (fun i s=>s=LG L (L+(i:Nat)) C D ts) (by omega) (s0:=[]) (by rw [oP (by omega)]) (fun i s next _ hi hm hnx=>?_) (fun s next hm=>?_)
  · subst hm
    dsimp only
    have hLH:L<H∧E=H - L:=by
      by_cases e:L<H
      · rw [if_pos e] at eE; exact ⟨e,eE⟩
      · rw [if_neg e] at eE; omega
    obtain ⟨v,hv⟩:∃ v:Nat,L+(i:Int)=v:=⟨(L+i).toNat,by omega⟩
    have e1:AH (L+(i:Int))=v:=by rw [AX (by omega) (by omega)]; exact hv
    rw [e1]
    refine AC (fun _=>?_) (fun h=>by omega)
    refine vU h.sml (MA h) h ?_
    have erow:AeM rows ts v=(KP ts v).map WT:=by unfold AeM; rw [if_pos (by omega),Int.toNat_natCast]
    rw [erow]
    have hsl:=SY ts v
    have hrow:∀ t∈KP ts v,t.Row=v:=fun t ht=>by simpa using (List.mem_filter.1 ht).2
    have hin:∀ t∈KP ts v,ZB rows cols t:=fun t ht=>h.inn t (List.mem_filter.1 ht).1
    have hcut:=Ac6 h.srt L C D v (by omega)
    rw [show (v:Int)+1=L+((i+1:Nat):Int) by omega] at hcut
    rw [hcut] at hnx
    have hacc:(LG L v C D ts).length≤ts.length:=by
      unfold LG
      rw [List.length_map]
      exact List.length_filter_le _ _
    rw [hv]
    generalize LG L v C D ts=acc at hnx hacc
    generalize KP ts v=xs at *
    refine AW (fun (s:List AD) i=>(s,i)) 0 xs.length (by omega) (fun j s=>s=acc++((xs.take j).filter (jA C D)).map (shf L C)) (by omega) (by simp) (fun j s nx _ hj hm hnj=>?_) (fun s nx hm=>?_)
    · subst hm
      dsimp only
      refine AC (fun _=>?_) (fun h=>by simp at h; omega)
      have hm:=List.getElem_mem hj
      have hi1:=hin _ hm
      have hr:=hrow _ hm
      unfold ZB at hi1
      have hst:(xs.take (j+1)).filter (jA C D)=(xs.take j).filter (jA C D)++if jA C D xs[j]=true then [xs[j]] else []:=by
        rw [List.take_succ_eq_append_getElem hj,List.filter_append,List.filter_cons,List.filter_nil]
      refine AO (by omega) (x:=WT xs[j]) (by simp [hj]) ?_
      have eAt:(WT xs[j]).At=xs[j].Col:=rfl
      have eVal:(WT xs[j]).Val=xs[j].Val:=rfl
      rw [eAt,eVal]
      refine FH (fun b=>b=jA C D xs[j]) ?_ fun k hk=>?_
      · rintro _ rfl
        refine ⟨fun hc=>BG ?_ (hnj _ ?_),fun hc=>hnj _ ?_⟩
        · have:=List.length_filter_le (jA C D) (xs.take j)
          have h4:(xs.take j).length≤xs.length:=by simp; omega
          simp only [List.length_append,List.length_map,List.length_singleton]
          omega
        · have hc':C≤xs[j].Col∧xs[j].Col<D:=by simpa [jA] using hc
          rw [hst,if_pos hc,List.map_append,List.append_assoc,AX (x:=xs[j].Col - C) (by omega) (by omega)]
          have:(⟨(i:Int),xs[j].Col - C,xs[j].Val⟩:AD)=shf L C xs[j]:=by unfold shf; rw [show (i:Int)=xs[j].Row - L by omega]
          rw [this]; rfl
        · rw [hst,if_neg (by simp [hc]),List.append_nil]
      · refine AC (fun hc=>hk _ ?_) (fun hc=>hk _ ?_)
        · unfold jA
          apply decide_eq_decide.2
          rw [eF,AX (x:=xs[j].Col - C) (by omega) (by omega)]
          split <;> omega
        · unfold jA; symm; apply decide_eq_false; omega
    · subst hm
      dsimp only
      refine AC (fun h=>by simp at h) (fun _=>hnx _ ?_)
      rw [List.take_length]
  · subst hm
    dsimp only
    refine AC (fun h=>by omega) (fun _=>?_)
    have e:LG L (L+(n:Int)) C D ts=LG L H C D ts:=by
      by_cases e:L<H
      · rw [if_pos e] at eE; rw [show L+(n:Int)=H by omega]
      · rw [if_neg e] at eE; rw [oP (by omega),oP (by omega)]
    rw [e]
    rw [hn] at hcan hQ
    refine iX (by omega) (by omega) (by have:=hcan.len; omega) (fun t ht=>?_) hQ
    have:=hcan.inn t ht
    unfold ZB at this
    exact ⟨this.1,this.2.1⟩
theorem Aa7 {r rows cols:Int} {kvs:List (EX×Int)} (h:0≤rows∧rows≤4096∧0≤cols∧cols≤4096) (hl:kvs.length≤65536) (hk:∀ t∈kvs,ZB rows cols (rQ t.1 0)) (hv:∀ t∈kvs,FP t.2):Canon rows cols (NJ (SC r kvs) rQ).1:=by
  refine ⟨h.1,h.2.1,h.2.2.1,h.2.2.2,?_,?_,?_⟩
  · exact Nat.le_trans (yF _) (by have:=(WC r kvs hv).1; omega)
  · unfold NJ
    split
    · unfold Srt
      rw [List.pairwise_map]
      exact UX r kvs
    · exact .nil
  · intro t ht
    unfold NJ at ht
    split at ht
    · obtain ⟨p,hp,rfl⟩:=List.mem_map.1 ht
      obtain ⟨x,hx,e⟩:=yE hp
      have:=hk x hx
      unfold ZB rQ at *
      rw [←e]
      exact this
    · simp at ht
def uT (n:Int) (e:AM):Prop:=(0≤e.From∧e.From<n)∧(0≤e.To∧e.To<n)
instance (n:Int) (e:AM):Decidable (uT n e):=by unfold uT; infer_instance
def vV (e:AM):Prop:=0≤e.W∧e.W≤2147483647
instance (e:AM):Decidable (vV e):=by unfold vV; infer_instance
def IZ (g:AL):Int:=
  if g.N<0 then 3 else if 4096<g.N∨65536<g.Edges.length then 5 else if ¬ ∀ e∈g.Edges,uT g.N e then 3 else if ¬ ∀ e∈g.Edges,vV e then 7 else 0
theorem ML {g:AL} (h:IZ g=0):0≤g.N∧g.N≤4096∧g.Edges.length≤65536∧(∀ e∈g.Edges,uT g.N e)∧∀ e∈g.Edges,vV e:=by
  unfold IZ at h
  split at h
  · omega
  · split at h
    · omega
    · split at h
      · omega
      · split at h
        · omega
        · rename_i h1 h2 h3 h4
          exact ⟨by omega,by omega,by omega,Decidable.of_not_not h3,Decidable.of_not_not h4⟩
theorem NK {g:AL} {Q:Int→Prop} (hQ:Q (IZ g)):GW g Q:=by
  unfold GW
  unfold IZ at hQ
  refine AC (fun h=>?_) (fun h=>?_)
  · rwa [if_pos h] at hQ
  rw [if_neg h] at hQ
  refine FH (fun b=>b=decide (4096<g.N∨65536<g.Edges.length)) ?_ fun k hk=>?_
  · rintro _ rfl
    refine AC (fun h5=>?_) (fun h5=>?_)
    · rwa [if_pos h5] at hQ
    rw [if_neg h5] at hQ
    unfold DE DO NC JS
    refine EC g.Edges.length (by omega) (fun i=>∀ (j:Nat) (hj:j<g.Edges.length),j<i→uT g.N g.Edges[j]) (by simp) (fun i next hi hR hn=>?_) (fun next hR=>?_)
    · refine AC (fun _=>?_) (fun h=>by omega)
      have hbad (hb:¬uT g.N g.Edges[i]):AQ (decide (0≤(i:Int))) (Q 3) (CD g.Edges fun r45=>AQ r45 (Q 7) (Q 0)):=by
        refine AC (fun _=>?_) (fun h=>by omega)
        rwa [if_pos (fun h'=>hb (h' _ (List.getElem_mem hi)))] at hQ
      refine AV hi ?_
      refine AC (fun h1=>BF rfl (BF rfl (hbad fun hh=>by unfold uT at hh; omega))) (fun h1=>?_)
      refine AC (fun h2=>BF rfl (hbad fun hh=>by unfold uT at hh; omega)) (fun h2=>?_)
      refine AC (fun h3=>BF rfl (hbad fun hh=>by unfold uT at hh; omega)) (fun h3=>?_)
      refine AC (fun h4=>hbad fun hh=>by unfold uT at hh; omega) (fun h4=>hn fun j hj hji=>?_)
      by_cases e:j=i
      · subst e; unfold uT; omega
      · exact hR j hj (by omega)
    · refine AC (fun h=>by omega) (fun _=>AN (by decide) ?_)
      have hall:∀ e∈g.Edges,uT g.N e:=fun e he=>by
        obtain ⟨j,hj,rfl⟩:=List.getElem_of_mem he
        exact hR j hj hj
      rw [if_neg (fun h=>h hall)] at hQ
      unfold CD DP ND
      refine EC g.Edges.length (by omega) (fun i=>∀ (j:Nat) (hj:j<g.Edges.length),j<i→vV g.Edges[j]) (by simp) (fun i next hi hR hn=>?_) (fun next hR=>?_)
      · refine AC (fun _=>?_) (fun h=>by omega)
        have hbad (hb:¬vV g.Edges[i]):AQ (decide (0≤(i:Int))) (Q 7) (Q 0):=by
          refine AC (fun _=>?_) (fun h=>by omega)
          rwa [if_pos (fun h'=>hb (h' _ (List.getElem_mem hi)))] at hQ
        refine AV hi (AC (fun h1=>BF rfl (hbad fun hh=>by unfold vV at hh; omega)) (fun h1=>AC (fun h2=>hbad fun hh=>by unfold vV at hh; omega) (fun h2=>hn fun j hj hji=>?_)))
        by_cases e:j=i
        · subst e; unfold vV; omega
        · exact hR j hj (by omega)
      · refine AC (fun h=>by omega) (fun _=>AN (by decide) ?_)
        rwa [if_neg (fun h=>h fun e he=>by
          obtain ⟨j,hj,rfl⟩:=List.getElem_of_mem he
          exact hR j hj hj)] at hQ
  · refine AC (fun h1=>hk _ ?_) (fun h1=>hk _ ?_)
    · rw [decide_eq_true h1,decide_eq_true (.inl h1)]
    · apply decide_eq_decide.2; omega
def kvF (e:AM):EX×Int:=((e.To,e.From),e.W)
def ZC (e:AM):AM:=⟨e.To,e.From,e.W⟩
def DF (g:AL):List AD:=(NJ (SC 1 (g.Edges.map kvF)) rQ).1
theorem fI {g:AL} (h:IZ g=0):Canon g.N g.N (DF g):=by
  obtain ⟨h1,h2,h3,h4,h5⟩:=ML h
  refine Aa7 ⟨h1,h2,h1,h2⟩ (by simpa using h3) (fun t ht=>?_) (fun t ht=>?_)
  · obtain ⟨e,he,rfl⟩:=List.mem_map.1 ht
    have:=h4 e he
    unfold uT at this
    unfold ZB rQ kvF
    simp only
    omega
  · obtain ⟨e,he,rfl⟩:=List.mem_map.1 ht
    have:=h5 e he
    unfold vV at this
    unfold FP kvF
    simp only
    omega
def oQ (g:AL):Rows×Int:=if IZ g=0 then (BO g.N g.N (DF g),0) else (zR,IZ g)
theorem jB {g:AL} {Q:Rows×Int→Prop} (hQ:Q (oQ g)):RO g Q:=by
  unfold RO
  unfold oQ at hQ
  refine NK (FR (fun h=>?_) (fun h=>?_))
  · rwa [if_neg h] at hQ
  rw [if_pos h] at hQ
  have hcan:=fI h
  obtain ⟨h1,h2,h3,h4,h5⟩:=ML h
  have hv:∀ t∈g.Edges.map ZC,FP t.W:=fun t ht=>by
    obtain ⟨e,he,rfl⟩:=List.mem_map.1 ht
    have:=h5 e he
    unfold vV at this
    unfold FP ZC
    simp only
    omega
  unfold OG NG KM
  refine AW (fun (s:List AM) i=>(s,i)) 0 g.Edges.length (by omega) (fun i s=>s=(g.Edges.take i).map ZC) (by omega) rfl (fun i s next _ hi hm hn=>?_) (fun s next hm=>?_)
  · subst hm
    dsimp only
    refine AC (fun _=>?_) (fun h=>by omega)
    refine AV hi (BF rfl (BG ?_ (hn _ ?_)))
    · simp; omega
    · rw [HT hi]; rfl
  · subst hm
    dsimp only
    refine AC (fun h=>by omega) (fun _=>?_)
    rw [List.take_length]
    unfold IE
    refine iW (by omega) (by simp; omega) hv ?_
    dsimp only
    have hkv:(g.Edges.map ZC).map oJ=g.Edges.map kvF:=by rw [List.map_map]; rfl
    rw [hkv]
    have hf1:=(AiP (SC 1 (g.Edges.map kvF))).1
    have hgl:=hcan.len
    have hgi:=hcan.inn
    unfold DF at hQ hgl hgi
    rw [hf1] at hQ hgl hgi
    generalize (NJ (SC 1 (g.Edges.map kvF)) mkE).1=es at hQ hgl hgi
    have hel:es.length≤65536:=by simpa using hgl
    refine AW (fun (s:List AD) i=>(s,i)) 0 es.length (by omega) (fun i s=>s=(es.take i).map e2t) (by omega) rfl (fun i s next _ hi hm hn=>?_) (fun s next hm=>?_)
    · subst hm
      dsimp only
      refine AC (fun _=>?_) (fun h=>by omega)
      refine AV hi (BG ?_ (hn _ ?_))
      · simp; omega
      · rw [HT hi]; rfl
    · subst hm
      dsimp only
      refine AC (fun h=>by omega) (fun _=>?_)
      rw [List.take_length]
      refine iX h1 (by omega) (by simp; omega) (fun t ht=>?_) hQ
      have:=hgi t ht
      unfold ZB at this
      exact ⟨this.1,this.2.1⟩
theorem Ac7:small zR:=⟨by decide,by decide,by decide⟩
theorem Ac8:¬WE zR:=fun h=>by have:=h.sl; simp [zR] at this
end Go.Proofs.YtbohadngdkjljaaGreat
