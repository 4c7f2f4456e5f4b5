import Derived.Test.YtpackolbhcmomaaGreatCsrM
namespace Go.Proofs.YtpackolbhcmomaaGreat
open Go Go.Fw
set_option linter.unusedVariables false
set_option linter.unusedSimpArgs false
theorem incr_ext {l l':List Int} (h:l.Pairwise (· < ·)) (h':l'.Pairwise (· < ·)) (he:∀ x,x∈l↔x∈l'):l=l':=by
  have hn:∀ {l:List Int},l.Pairwise (· < ·)→l.Nodup:=fun h=>List.nodup_iff_pairwise_ne.2 (h.imp fun hab=>by omega)
  have hp:=(List.perm_ext_iff_of_nodup (hn h) (hn h')).2 he
  exact hp.eq_of_pairwise (fun a b _ _ h1 h2=>by omega) h h'
theorem incr_at {l:List Int} (h:l.Pairwise (· < ·)) {i j:Nat} (hij:i<j) (hj:j<l.length):at0 l i<at0 l j:=by
  unfold at0
  have:=List.pairwise_iff_getElem.1 h i j (by omega) hj hij
  simpa [List.getD_eq_getElem?_getD,hj,show i<l.length by omega] using this
theorem mem_at0 {l:List Int} {x:Int} (h:x∈l):∃ i:Nat,i<l.length∧at0 l i=x:=by
  obtain ⟨i,hi,rfl⟩:=List.getElem_of_mem h
  exact ⟨i,hi,by unfold at0; simp [List.getD_eq_getElem?_getD,hi]⟩
def anyR (T:List Triple) (c:Nat):Bool:=T.any fun t=>decide (t.Row=(c:Int))
def atS (n:Nat) (T:List Triple):List Int:=((List.range n).filter (anyR T)).map fun c:Nat=>(c:Int)
theorem atS_incr (n:Nat) (T:List Triple):(atS n T).Pairwise (· < ·):=by
  unfold atS
  rw [List.pairwise_map]
  exact List.Pairwise.imp (fun {a b} h=>by omega) ((List.pairwise_lt_range (n:=n)).filter _)
theorem atS_mem {n:Nat} {T:List Triple} {x:Int}:x∈atS n T↔(0≤x∧x<n)∧∃ t∈T,t.Row=x:=by
  unfold atS anyR
  simp only [List.mem_map,List.mem_filter,List.mem_range,List.any_eq_true,decide_eq_true_eq]
  constructor
  · rintro ⟨c,⟨hc,t,ht,e⟩,rfl⟩; exact ⟨⟨by omega,by omega⟩,t,ht,e⟩
  · rintro ⟨⟨h0,h1⟩,t,ht,e⟩; exact ⟨x.toNat,⟨by omega,t,ht,by omega⟩,by omega⟩
theorem atS_len (n:Nat) (T:List Triple):(atS n T).length≤n:=by
  unfold atS
  rw [List.length_map]
  exact Nat.le_trans (List.length_filter_le _ _) (by simp)
def stS (n:Nat) (T:List Triple):List Int:=0 :: (atS n T).map fun x=>below T (x.toNat+1)
def colS (rows cols:Int) (T:List Triple):Columns:=⟨rows,cols,atS cols.toNat T,stS cols.toNat T,T.map (·.Col),T.map (·.Val)⟩
theorem st_len (n:Nat) (T:List Triple):(stS n T).length=(atS n T).length+1:=by simp [stS]
theorem st_hi {n:Nat} {T:List Triple} {j:Nat} (hj:j<(atS n T).length):at0 (stS n T) ((j:Int)+1)=below T ((at0 (atS n T) j).toNat+1):=by
  unfold stS at0
  rw [show ((j:Int)+1).toNat=j+1 by omega]
  simp [List.getD_eq_getElem?_getD,hj]
theorem at_in {n:Nat} {T:List Triple} {j:Nat} (hj:j<(atS n T).length):(0≤at0 (atS n T) j∧at0 (atS n T) j<n)∧∃ t∈T,t.Row=at0 (atS n T) j:=
  atS_mem.1 (at0_mem (by omega) (by omega))
theorem row_at {rows cols:Int} {T:List Triple} (h:Canon cols rows T) {t:Triple} (ht:t∈T):∃ q:Nat,q<(atS cols.toNat T).length∧at0 (atS cols.toNat T) q=t.Row:=by
  have hin:=h.inn t ht
  unfold inT at hin
  exact mem_at0 (atS_mem.2 ⟨⟨by omega,by omega⟩,t,ht,rfl⟩)
theorem st_lo {rows cols:Int} {T:List Triple} (h:Canon cols rows T) {j:Nat} (hj:j<(atS cols.toNat T).length):at0 (stS cols.toNat T) j=below T (at0 (atS cols.toNat T) j).toNat:=by
  have hinc:=atS_incr cols.toNat T
  have h0:=(at_in hj).1
  cases j with
  | zero=>
    rw [show at0 (stS cols.toNat T) ((0:Nat):Int)=0 from rfl]
    unfold below
    rw [List.countP_eq_zero.2]; · rfl
    intro t ht
    obtain ⟨q,hq,e⟩:=row_at h ht
    simp only [decide_eq_true_eq]
    rw [←e]
    by_cases e0:q=0
    · subst e0; omega
    · have:=incr_at hinc (show 0<q by omega) hq; omega
  | succ i=>
    rw [show ((i+1:Nat):Int)=(i:Int)+1 by omega,st_hi (show i<(atS cols.toNat T).length by omega)]
    unfold below
    congr 1
    apply List.countP_congr
    intro t ht
    simp only [decide_eq_true_eq]
    have hlt:=incr_at hinc (show i<i+1 by omega) hj
    rw [show ((i+1:Nat):Int)=(i:Int)+1 by omega] at hlt h0
    have h1:=(at_in (show i<(atS cols.toNat T).length by omega)).1
    constructor
    · intro hh; omega
    · intro hh
      obtain ⟨q,hq,e⟩:=row_at h ht
      have hqi:q≤i:=by
        rcases Nat.lt_or_ge i q with hc | hc
        · exfalso
          by_cases e1:q=i+1
          · subst e1; rw [show ((i+1:Nat):Int)=(i:Int)+1 by omega] at e; omega
          · have:=incr_at hinc (show i+1<q by omega) hq
            rw [show ((i+1:Nat):Int)=(i:Int)+1 by omega] at this; omega
        · exact hc
      by_cases e1:q=i
      · subst e1; omega
      · have:=incr_at hinc (show q<i by omega) (by omega); omega
theorem Canon.colseg {rows cols:Int} {T:List Triple} (h:Canon cols rows T) {j:Nat} (hj:j<(atS cols.toNat T).length) :
    ∃ x lo hi:Nat,at0 (atS cols.toNat T) j=x∧(x:Int)<cols∧at0 (stS cols.toNat T) j=lo∧at0 (stS cols.toNat T) ((j:Int)+1)=hi∧lo<hi∧Seg T x lo hi:=by
  obtain ⟨⟨h0,h1⟩,t,ht,e⟩:=at_in hj
  obtain ⟨x,hx⟩:∃ x:Nat,at0 (atS cols.toNat T) j=x:=⟨(at0 (atS cols.toNat T) j).toNat,by omega⟩
  obtain ⟨lo,hi,s⟩:=h.seg x
  have hc:=h.r0
  have hlo:at0 (stS cols.toNat T) j=lo:=by rw [st_lo h hj,hx,Int.toNat_natCast,s.lo]
  have hhi:at0 (stS cols.toNat T) ((j:Int)+1)=hi:=by rw [st_hi hj,hx,Int.toNat_natCast,s.hi]
  refine ⟨x,lo,hi,hx,by omega,hlo,hhi,?_,s⟩
  obtain ⟨p,hp,rfl⟩:=List.getElem_of_mem ht
  have:=(h.srt.at hp (i:=x)).1 (by omega)
  have h1:=s.lo; have h2:=s.hi
  omega
def ColR (c:Columns) (i:Nat):Prop:=∀ j:Nat,at0 c.Start i≤j→(j:Int)<at0 c.Start ((i:Int)+1)→0≤at0 c.Row j∧at0 c.Row j<c.Rows∧(at0 c.Start i<j→at0 c.Row ((j:Int) - 1)<at0 c.Row j)
structure ColP (c:Columns):Prop where
  r0:0≤c.Rows
  r1:c.Rows≤4096
  c0:0≤c.Cols
  c1:c.Cols≤4096
  sl:(c.Start.length:Int)=(c.At.length:Int)+1
  vl:c.Val.length=c.Row.length
  cl:c.Row.length≤65536
  s0:at0 c.Start 0=0
  sn:at0 c.Start c.At.length=c.Row.length
  at_:∀ i:Nat,i<c.At.length→0≤at0 c.At i∧at0 c.At i<c.Cols∧(0<i→at0 c.At ((i:Int) - 1)<at0 c.At i)
  up:∀ i:Nat,i<c.At.length→at0 c.Start i<at0 c.Start ((i:Int)+1)
  row:∀ i:Nat,i<c.At.length→ColR c i
noncomputable instance (c:Columns):Decidable (ColP c):=Classical.propDecidable _
def smallC (c:Columns):Prop:=c.At.length≤1000000000∧c.Start.length≤1000000000∧c.Row.length≤1000000000000
theorem dcsc_within_ok {x y:Int} {Q:Bool→Prop} (hQ:Q (decide (0≤x∧x≤y))):dcsc_within x y Q:=by
  unfold dcsc_within
  refine ifP_dec (fun h=>?_) (fun h=>?_)
  · rwa [show decide (x≤y)=decide (0≤x∧x≤y) by apply decide_eq_decide.2; omega]
  · rwa [show decide (0≤x∧x≤y)=false by apply decide_eq_false; omega] at hQ
theorem rising_ok {xs:List Int} {cols:Int} {Q:Bool→Prop} (hc0:0≤cols) (hc1:cols≤1000000000) (hl:xs.length≤1000000000)
    (h1:(∀ j:Nat,j<xs.length→0≤at0 xs j∧at0 xs j<cols∧(0<j→at0 xs ((j:Int) - 1)<at0 xs j))→Q true) (h2:(∃ j:Nat,j<xs.length∧¬(0≤at0 xs j∧at0 xs j<cols∧(0<j→at0 xs ((j:Int) - 1)<at0 xs j)))→Q false):dcsc_rising xs cols Q:=by
  unfold dcsc_rising
  rw [w64_id (by omega) (by omega)]
  refine scan_intro xs.length (by omega) (fun i=>∀ j:Nat,j<i→j<xs.length→0≤at0 xs j∧at0 xs j<cols∧(0<j→at0 xs ((j:Int) - 1)<at0 xs j)) (by simp) (fun i next hi hR hn=>?_) (fun next hR=>?_)
  · refine ifP_dec (fun _=>?_) (fun h=>by omega)
    refine idxP_at0 (by omega) (by omega) (dcsc_within_ok (ifP_not (fun h=>h2 ⟨i,hi,fun hh=>?_⟩) (fun h=>?_)))
    · simp at h; omega
    have h:0≤at0 xs i∧at0 xs i≤cols - 1:=by simpa using h
    have hstep (hx:0<i→at0 xs ((i:Int) - 1)<at0 xs i):next (w64 ((i:Int)+1)):=hn fun j hj hjl=>by
      by_cases e:j=i
      · subst e; exact ⟨h.1,by omega,hx⟩
      · exact hR j (by omega) hjl
    refine ifP_dec (fun h0=>?_) (fun h0=>hstep fun h=>by omega)
    rw [w64_id (by omega) (by omega)]
    refine idxP_at0 (by omega) (by omega) (ifP_dec (fun hle=>h2 ⟨i,hi,fun hh=>?_⟩) (fun hle=>hstep fun _=>by omega))
    have:=hh.2.2 (by omega); omega
  · exact ifP_dec (fun h=>by omega) (fun _=>h1 fun j hj=>hR j hj hj)
theorem lt_le {xs:List Int} {n:Nat} (h:∀ i:Nat,i<n→at0 xs i<at0 xs ((i:Int)+1)) {i j:Nat} (h1:i≤j) (h2:j≤n):at0 xs i≤at0 xs j:=by
  induction j with
  | zero => have : i = 0 := by omega
            subst this; exact Int.le_refl _
  | succ j ih=>
    by_cases e:i=j+1
    · subst e; exact Int.le_refl _
    · have:=ih (by omega) (by omega)
      have h3:=h j (by omega)
      have:((j+1:Nat):Int)=(j:Int)+1:=by omega
      rw [this]; omega
theorem dcsc_right_ok {c:Columns} {Q:Bool→Prop} (hl:smallC c) (hQ:Q (decide (ColP c))):dcsc_Right c Q:=by
  unfold dcsc_Right
  have hno (h:¬ColP c):Q false:=by rwa [decide_eq_false h] at hQ
  have hyes (h:ColP c):Q true:=by rwa [decide_eq_true h] at hQ
  unfold smallC at hl
  refine dcsc_within_ok (ifP_not (fun h=>hno fun hh=>?_) (fun h=>?_))
  · have:=hh.r0; have:=hh.r1; simp at h; omega
  have h1:0≤c.Rows∧c.Rows≤4096:=by simpa using h
  refine dcsc_within_ok (ifP_not (fun h=>hno fun hh=>?_) (fun h=>?_))
  · have:=hh.c0; have:=hh.c1; simp at h; omega
  have h2:0≤c.Cols∧c.Cols≤4096:=by simpa using h
  rw [w64_id (by omega) (by omega)]
  refine ifP_ne (fun h=>hno fun hh=>h hh.sl) (fun h3=>?_)
  refine ifP_ne (fun h=>hno fun hh=>h (by rw [hh.vl])) (fun h4=>?_)
  refine ifP_dec (fun h=>hno fun hh=>by have:=hh.cl; omega) (fun h5=>?_)
  have hsl:c.Start.length=c.At.length+1:=by omega
  refine rising_ok h2.1 (by omega) (by omega) (fun hat=>ifP_neg rfl ?_) (fun hb=>ifP_pos rfl (hno fun hh=>?_))
  rotate_left
  · obtain ⟨i,hi,hbad⟩:=hb
    exact hbad (hh.at_ i hi)
  rw [w64_id (by omega) (by omega)]
  refine rising_ok (by omega) (by omega) (by omega) (fun hst=>ifP_neg rfl ?_) (fun hb=>ifP_pos rfl (hno fun hh=>?_))
  rotate_left
  · obtain ⟨i,hi,hbad⟩:=hb
    have g0:=lt_le hh.up (i:=0) (j:=i) (by omega) (by omega)
    have g1:=lt_le hh.up (i:=i) (j:=c.At.length) (by omega) (by omega)
    have e0:=hh.s0; have en:=hh.sn
    rw [show ((0:Nat):Int)=0 from rfl] at g0
    refine hbad ⟨by omega,by omega,fun hp=>?_⟩
    have:=hh.up (i - 1) (by omega)
    rw [show ((i - 1:Nat):Int)=(i:Int) - 1 by omega,show (i:Int) - 1+1=i by omega] at this
    exact this
  refine idxP_at0 (by omega) (by omega) (ifP_ne (fun h=>hno fun hh=>h hh.s0) (fun h6=>?_))
  refine idxP_at0 (by omega) (by omega) (ifP_ne (fun h=>hno fun hh=>h hh.sn) (fun h7=>?_))
  have hup:∀ i:Nat,i<c.At.length→at0 c.Start i<at0 c.Start ((i:Int)+1):=fun i hi=>by
    have:=(hst (i+1) (by omega)).2.2 (by omega)
    rw [show ((i+1:Nat):Int) - 1=i by omega,show ((i+1:Nat):Int)=(i:Int)+1 by omega] at this
    exact this
  refine scan_intro c.At.length (by omega) (fun i=>∀ j:Nat,j<i→ColR c j) (by simp) (fun i next hi hR hnx=>?_) (fun next hR=>?_)
  · refine ifP_dec (fun _=>?_) (fun h=>by omega)
    have e1:w64 ((i:Int)+1)=(i:Int)+1:=w64_id (by omega) (by omega)
    rw [e1] at hnx ⊢
    have hlo:0≤at0 c.Start i:=(hst i (by omega)).1
    have hhi:at0 c.Start ((i:Int)+1)≤c.Row.length:=by
      have:=(hst (i+1) (by omega)).2.1
      rw [show ((i+1:Nat):Int)=(i:Int)+1 by omega] at this; omega
    have hm:=hup i hi
    refine idxP_at0 (by omega) (by omega) (idxP_at0 (by omega) (by omega) ⟨hlo,by omega,hhi,?_⟩)
    have hsl2:=seg_len hlo (Int.le_of_lt hm) hhi
    have heq:∀ j:Nat,at0 c.Start i+j<at0 c.Start ((i:Int)+1)→at0 ((c.Row.take (at0 c.Start ((i:Int)+1)).toNat).drop (at0 c.Start i).toNat) j=at0 c.Row (at0 c.Start i+j):=fun j hj=>at0_seg hlo (Int.le_of_lt hm) hhi hj
    refine rising_ok (by omega) (by omega) (by rw [hsl2]; omega) (fun hall=>ifP_neg rfl (hnx fun j hj=>?_)) (fun hb=>ifP_pos rfl (hno fun hh=>?_))
    · by_cases e:j=i
      · subst e
        intro p hp1 hp2
        obtain ⟨q,hq⟩:∃ q:Nat,(p:Int)=at0 c.Start j+q:=⟨(p - at0 c.Start j).toNat,by omega⟩
        have hr:=hall q (by rw [hsl2]; omega)
        rw [heq q (by omega),←hq] at hr
        refine ⟨hr.1,hr.2.1,fun hlt=>?_⟩
        have:=hr.2.2 (by omega)
        rw [show (q:Int) - 1=((q - 1:Nat):Int) by omega,heq (q - 1) (by omega),show at0 c.Start j+((q - 1:Nat):Int)=(p:Int) - 1 by omega] at this
        exact this
      · exact hR j (by omega)
    · obtain ⟨q,hq,hbad⟩:=hb
      rw [hsl2] at hq
      apply hbad
      have hr:=hh.row i hi (at0 c.Start i+q).toNat (by omega) (by omega)
      have ep:(((at0 c.Start i+q).toNat:Nat):Int)=at0 c.Start i+q:=by omega
      rw [ep] at hr
      rw [heq q (by omega)]
      refine ⟨hr.1,hr.2.1,fun h0=>?_⟩
      have:=hr.2.2 (by omega)
      rw [show (q:Int) - 1=((q - 1:Nat):Int) by omega,heq (q - 1) (by omega),show at0 c.Start i+((q - 1:Nat):Int)=at0 c.Start i+q - 1 by omega]
      exact this
  · refine ifP_dec (fun h=>by omega) (fun _=>hyes ⟨h1.1,h1.2,h2.1,h2.2,h3,by omega,by omega,h6,h7,hat,hup,fun i hi=>hR i (by omega)⟩)
theorem Canon.colp {rows cols:Int} {T:List Triple} (h:Canon cols rows T):ColP (colS rows cols T) where
  r0:=h.c0
  r1:=h.c1
  c0:=h.r0
  c1:=h.r1
  sl:=by simp [colS,st_len]
  vl:=by simp [colS]
  cl:=by simpa [colS] using h.len
  s0:=rfl
  sn:=by
    show at0 (stS cols.toNat T) (atS cols.toNat T).length=((T.map (·.Col)).length:Int)
    rw [List.length_map]
    cases hl:(atS cols.toNat T).length with
    | zero=>
      have hn:T=[]:=by
        rcases T with _ | ⟨t,T⟩
        · rfl
        · obtain ⟨q,hq,_⟩:=row_at h (t:=t) (by simp)
          omega
      subst hn; rfl
    | succ n=>
      have hj:n<(atS cols.toNat T).length:=by omega
      rw [show ((n+1:Nat):Int)=(n:Int)+1 by omega,st_hi hj]
      unfold below
      rw [List.countP_eq_length.2]
      intro t ht
      obtain ⟨q,hq,e⟩:=row_at h ht
      simp only [decide_eq_true_eq]
      rw [←e]
      have h0:=(at_in hj).1
      by_cases e1:q=n
      · subst e1; omega
      · have:=incr_at (atS_incr cols.toNat T) (show q<n by omega) hj; omega
  at_ i hi:=by
    have h0:=(at_in (T:=T) (n:=cols.toNat) hi).1
    refine ⟨h0.1,by have:=h.r0; show at0 (atS cols.toNat T) i<cols; omega,fun hp=>?_⟩
    have:=incr_at (atS_incr cols.toNat T) (show i - 1<i by omega) hi
    rw [show ((i - 1:Nat):Int)=(i:Int) - 1 by omega] at this
    exact this
  up i hi:=by
    obtain ⟨x,lo,hi',h1,h2,h3,h4,h5,s⟩:=h.colseg hi
    show at0 (stS cols.toNat T) i<at0 (stS cols.toNat T) ((i:Int)+1)
    omega
  row i hi:=by
    obtain ⟨x,lo,hi',h1,h2,h3,h4,h5,s⟩:=h.colseg hi
    intro j hj1 hj2
    have hj1:at0 (stS cols.toNat T) i≤j:=hj1
    have hj2:(j:Int)<at0 (stS cols.toNat T) ((i:Int)+1):=hj2
    show 0≤at0 (T.map (·.Col)) j∧at0 (T.map (·.Col)) j<rows∧(at0 (stS cols.toNat T) i<j→at0 (T.map (·.Col)) ((j:Int) - 1)<at0 (T.map (·.Col)) j)
    have hl:=s.len
    have hjl:j<T.length:=by omega
    have hc:at0 (T.map (·.Col)) j=T[j].Col:=by rw [at0_map (by omega) (by omega)]; rfl
    have hin:=h.inn _ (List.getElem_mem hjl)
    unfold inT at hin
    refine ⟨by rw [hc]; omega,by rw [hc]; omega,fun hlt=>?_⟩
    obtain ⟨q,rfl⟩:∃ q,j=q+1:=⟨j - 1,by omega⟩
    have hc2:at0 (T.map (·.Col)) (((q+1:Nat):Int) - 1)=T[q].Col:=by rw [at0_map (by omega) (by simp; omega)]; simp
    have r1:=s.row q (by omega) (by omega) (by omega)
    have r2:=s.row (q+1) hjl (by omega) (by omega)
    have hs:=List.pairwise_iff_getElem.1 h.srt q (q+1) (by omega) hjl (by omega)
    unfold ltK key at hs
    simp only at hs
    rw [hc,hc2]; omega
def idxC (c:Columns) (p:Nat):Nat:=(List.range c.At.length).countP fun i:Nat=>decide (at0 c.Start ((i:Int)+1)≤p)
def tripC (c:Columns):List Triple:=(List.range c.Row.length).map fun p=>⟨at0 c.At (idxC c p),at0 c.Row p,at0 c.Val p⟩
theorem idxC_lt {c:Columns} (h:ColP c) (p v:Nat) (hv:v≤c.At.length):idxC c p<v↔(p:Int)<at0 c.Start v:=by
  cases v with
  | zero=>have:=h.s0; rw [show ((0:Nat):Int)=0 from rfl,this]; omega
  | succ v=>
    have hm:=mono_count (q:=fun i:Nat=>decide (at0 c.Start ((i:Int)+1)≤p)) (l:=List.range c.At.length) (by
      rw [List.pairwise_iff_getElem]
      intro i j hi hj hij
      simp only [List.getElem_range,decide_eq_true_eq]
      intro hh
      simp at hj
      have:=lt_le h.up (i:=i+1) (j:=j+1) (by omega) (by omega)
      have e1:((i+1:Nat):Int)=(i:Int)+1:=by omega
      have e2:((j+1:Nat):Int)=(j:Int)+1:=by omega
      rw [e1,e2] at this; omega) v (by simp; omega)
    simp only [List.getElem_range,decide_eq_true_eq] at hm
    have e2:((v+1:Nat):Int)=(v:Int)+1:=by omega
    rw [e2]
    unfold idxC
    omega
theorem riseC {c:Columns} (h:ColP c) {i p q:Nat} (hi:i<c.At.length) (h1:at0 c.Start i≤p) (h2:(q:Int)<at0 c.Start ((i:Int)+1)) (hpq:p<q):at0 c.Row p<at0 c.Row q:=by
  induction q with
  | zero=>omega
  | succ q ih=>
    have:=(h.row i hi (q+1) (by omega) h2).2.2 (by omega)
    rw [show ((q+1:Nat):Int) - 1=q by omega] at this
    by_cases e:p=q
    · subst e; exact this
    · have:=ih (by omega) (by omega); omega
theorem atC_incr {c:Columns} (h:ColP c):c.At.Pairwise (· < ·):=by
  rw [List.pairwise_iff_getElem]
  intro i j hi hj hij
  have e:∀ k (hk:k<c.At.length),c.At[k]=at0 c.At k:=fun k hk=>by unfold at0; simp [List.getD_eq_getElem?_getD,hk]
  rw [e,e]
  induction j with
  | zero=>omega
  | succ j ih=>
    have:=(h.at_ (j+1) hj).2.2 (by omega)
    rw [show ((j+1:Nat):Int) - 1=j by omega] at this
    by_cases e:i=j
    · subst e; exact this
    · have:=ih (by omega) (by omega); omega
theorem ColP.canon {c:Columns} (h:ColP c):Canon c.Cols c.Rows (tripC c)∧c=colS c.Rows c.Cols (tripC c):=by
  have hinc:=atC_incr h
  have hlt:∀ p:Nat,p<c.Row.length→idxC c p<c.At.length:=fun p hp=>(idxC_lt h p _ (Nat.le_refl _)).2 (by have:=h.sn; omega)
  have hst:∀ (p:Nat),p<c.Row.length→at0 c.Start (idxC c p)≤p∧(p:Int)<at0 c.Start ((idxC c p:Nat)+1):=fun p hp=>by
    have h0:=hlt p hp
    have h1:=idxC_lt h p (idxC c p) (by omega)
    have h2:=idxC_lt h p (idxC c p+1) (by omega)
    rw [show ((idxC c p+1:Nat):Int)=(idxC c p:Int)+1 by omega] at h2
    omega
  have hcan:Canon c.Cols c.Rows (tripC c):=by
    refine ⟨h.c0,h.c1,h.r0,h.r1,by simpa [tripC] using h.cl,?_,?_⟩
    · unfold Srt tripC
      rw [List.pairwise_map,List.pairwise_iff_getElem]
      intro i j hi hj hij
      have hi:i<c.Row.length:=by simpa using hi
      have hj:j<c.Row.length:=by simpa using hj
      simp only [List.getElem_range]
      have h1:=hst i hi
      have h2:=hst j hj
      have hri':=hlt i hi
      have hrj':=hlt j hj
      have hle:idxC c i≤idxC c j:=by
        have:=idxC_lt h i (idxC c j+1) (by omega)
        rw [show ((idxC c j+1:Nat):Int)=(idxC c j:Int)+1 by omega] at this
        omega
      unfold ltK key
      simp only
      by_cases e:idxC c i=idxC c j
      · rw [e]
        rw [e] at h1
        exact .inr ⟨rfl,riseC h hrj' h1.1 h2.2 hij⟩
      · left; exact incr_at hinc (by omega) hrj'
    · intro t ht
      obtain ⟨p,hp,rfl⟩:=List.mem_map.1 ht
      simp only [List.mem_range] at hp
      have h0:=hlt p hp
      have h1:=hst p hp
      have h2:=h.row _ h0 p h1.1 h1.2
      have h3:=h.at_ _ h0
      unfold inT
      simp only
      omega
  refine ⟨hcan,?_⟩
  have hat:atS c.Cols.toNat (tripC c)=c.At:=by
    refine incr_ext (atS_incr _ _) hinc fun x=>?_
    rw [atS_mem]
    constructor
    · rintro ⟨_,t,ht,rfl⟩
      obtain ⟨p,hp,rfl⟩:=List.mem_map.1 ht
      simp only [List.mem_range] at hp
      exact at0_mem (by omega) (by have:=hlt p hp; omega)
    · intro hx
      obtain ⟨i,hi,rfl⟩:=mem_at0 hx
      have h3:=h.at_ i hi
      have h4:=h.up i hi
      have h5:=lt_le h.up (i:=0) (j:=i) (by omega) (by omega)
      have h6:=lt_le h.up (i:=i+1) (j:=c.At.length) (by omega) (by omega)
      have h7:=h.s0; have h8:=h.sn
      rw [show ((0:Nat):Int)=0 from rfl] at h5
      rw [show ((i+1:Nat):Int)=(i:Int)+1 by omega] at h6
      obtain ⟨p,hp⟩:∃ p:Nat,at0 c.Start i=p:=⟨(at0 c.Start i).toNat,by omega⟩
      have hpl:p<c.Row.length:=by omega
      have e:idxC c p=i:=by
        have g1:=idxC_lt h p i (by omega)
        have g2:=idxC_lt h p (i+1) (by omega)
        rw [show ((i+1:Nat):Int)=(i:Int)+1 by omega] at g2
        omega
      have:=h.c0
      exact ⟨⟨by omega,by omega⟩,_,List.mem_map.2 ⟨p,by simpa using hpl,rfl⟩,by simp only [e]⟩
  have hb:∀ i:Nat,i<c.At.length→below (tripC c) ((at0 c.At i).toNat+1)=at0 c.Start ((i:Int)+1):=by
    intro i hi
    unfold below tripC
    rw [List.countP_map]
    have h3:=h.at_ i hi
    have h1:0≤at0 c.Start ((i:Int)+1):=by
      have:=lt_le h.up (i:=0) (j:=i+1) (by omega) (by omega)
      have h0:=h.s0
      rw [show ((0:Nat):Int)=0 from rfl,h0,show ((i+1:Nat):Int)=(i:Int)+1 by omega] at this; exact this
    have h2:at0 c.Start ((i:Int)+1)≤c.Row.length:=by
      have:=lt_le h.up (i:=i+1) (j:=c.At.length) (by omega) (by omega)
      have h0:=h.sn
      rw [h0,show ((i+1:Nat):Int)=(i:Int)+1 by omega] at this; exact this
    refine Eq.trans ?_ (countP_lt (at0 c.Start ((i:Int)+1)) h1 c.Row.length h2)
    congr 1
    apply List.countP_congr
    intro p hp
    simp only [List.mem_range] at hp
    simp only [Function.comp_apply,decide_eq_true_eq]
    have h4:=idxC_lt h p (i+1) (by omega)
    rw [show ((i+1:Nat):Int)=(i:Int)+1 by omega] at h4
    rw [←h4]
    have h5:=hlt p hp
    have h6:=h.at_ _ h5
    constructor
    · intro hh
      rcases Nat.lt_or_ge (idxC c p) (i+1) with hc | hc
      · exact hc
      · exfalso
        have:=incr_at hinc (show i<idxC c p by omega) h5
        omega
    · intro hh
      by_cases e:idxC c p=i
      · rw [e]; omega
      · have:=incr_at hinc (show idxC c p<i by omega) hi
        omega
  have hcl:=h.vl
  have e1:c.Start=stS c.Cols.toNat (tripC c):=by
    apply List.ext_getElem?
    intro i
    unfold stS
    rw [hat]
    have hsl:=h.sl
    cases i with
    | zero=>
      have:=h.s0
      unfold at0 at this
      rw [List.getD_eq_getElem?_getD] at this
      have hl:0<c.Start.length:=by omega
      simp [List.getElem?_eq_getElem hl] at this ⊢
      exact this
    | succ i=>
      by_cases hi:i<c.At.length
      · have:=hb i hi
        have hl:i+1<c.Start.length:=by omega
        have e2:at0 c.At i=c.At[i]:=by unfold at0; simp [List.getD_eq_getElem?_getD,hi]
        have e3:at0 c.Start ((i:Int)+1)=c.Start[i+1]:=by unfold at0; rw [show ((i:Int)+1).toNat=i+1 by omega]; simp [List.getD_eq_getElem?_getD,hl]
        rw [e2,e3] at this
        simp [hl,hi,this]
      · rw [List.getElem?_eq_none (by omega),List.getElem?_eq_none (by simp; omega)]
  have e2:c.Row=(tripC c).map (·.Col):=by unfold tripC; simp only [List.map_map]; exact (map_at0 c.Row _ rfl).symm
  have e3:c.Val=(tripC c).map (·.Val):=by unfold tripC; simp only [List.map_map]; exact (map_at0 c.Val _ h.vl).symm
  cases c
  unfold colS
  simp only at hat e1 e2 e3 ⊢
  rw [hat,←e1,←e2,←e3]
theorem colS_nil:colS 0 0 []=⟨0,0,[],[0],[],[]⟩:=by simp [colS,atS,stS]
noncomputable def sureC (c:Columns):Columns:=if ColP c then c else colS 0 0 []
theorem sureC_col {rows cols:Int} {T:List Triple} (h:Canon cols rows T):sureC (colS rows cols T)=colS rows cols T:=by
  unfold sureC; rw [if_pos h.colp]
theorem dcsc_sure_ok {c:Columns} {Q:Columns→Prop} (hl:smallC c) (hQ:Q (sureC c)):dcsc_sure c Q:=by
  unfold dcsc_sure dcsc_none
  unfold sureC at hQ
  refine dcsc_right_ok hl (ifP_dec (fun h=>?_) (fun h=>?_))
  · rwa [if_pos h] at hQ
  · rwa [if_neg h,colS_nil] at hQ
theorem Canon.smlC {rows cols:Int} {T:List Triple} (h:Canon cols rows T):smallC (colS rows cols T):=by
  have:=h.r1; have:=h.len; have:=atS_len cols.toNat T
  unfold smallC colS
  simp only [List.length_map,st_len]
  omega
theorem atS_old {n:Nat} {T:List Triple} {t:Triple} (h:∃ u∈T,u.Row=t.Row):atS n (T++[t])=atS n T:=by
  refine incr_ext (atS_incr _ _) (atS_incr _ _) fun x=>?_
  rw [atS_mem,atS_mem]
  obtain ⟨u,hu,e⟩:=h
  constructor
  · rintro ⟨h1,v,hv,rfl⟩
    rcases List.mem_append.1 hv with hv | hv
    · exact ⟨h1,v,hv,rfl⟩
    · simp at hv; subst hv; exact ⟨h1,u,hu,e⟩
  · rintro ⟨h1,v,hv,e'⟩; exact ⟨h1,v,by simp [hv],e'⟩
theorem atS_new {n:Nat} {T:List Triple} {t:Triple} (h0:0≤t.Row) (h1:t.Row<n) (h:∀ u∈T,u.Row<t.Row):atS n (T++[t])=atS n T++[t.Row]:=by
  refine incr_ext (atS_incr _ _) ?_ fun x=>?_
  · rw [List.pairwise_append]
    refine ⟨atS_incr _ _,by simp,fun a ha b hb=>?_⟩
    simp at hb; subst hb
    obtain ⟨_,u,hu,rfl⟩:=atS_mem.1 ha
    exact h u hu
  · rw [List.mem_append,atS_mem,atS_mem]
    constructor
    · rintro ⟨g,v,hv,rfl⟩
      rcases List.mem_append.1 hv with hv | hv
      · exact .inl ⟨g,v,hv,rfl⟩
      · simp at hv; subst hv; simp
    · rintro (⟨g,v,hv,e⟩ | hx)
      · exact ⟨g,v,by simp [hv],e⟩
      · simp at hx; subst hx; exact ⟨⟨h0,h1⟩,t,by simp,rfl⟩
theorem atS_nil (n:Nat):atS n []=[]:=by unfold atS; rw [List.filter_eq_nil_iff.2 (by simp [anyR])]; rfl
theorem stS_nil (n:Nat):stS n []=[0]:=by unfold stS; rw [atS_nil]; rfl
theorem below_full {T:List Triple} {x:Nat} (h:∀ u∈T,u.Row<(x:Int)):below T x=T.length:=by
  unfold below; rw [List.countP_eq_length.2]; intro t ht; simpa using h t ht
theorem stS_new {n:Nat} {T:List Triple} {t:Triple} (h0:0≤t.Row) (h1:t.Row<n) (h:∀ u∈T,u.Row<t.Row):stS n (T++[t])=stS n T++[(T.length:Int)+1]:=by
  unfold stS
  rw [atS_new h0 h1 h,List.map_append,List.cons_append]
  congr 2
  · refine List.map_congr_left fun x hx=>?_
    obtain ⟨_,u,hu,e⟩:=atS_mem.1 hx
    have:=h u hu
    rw [below_snoc,if_neg (by omega)]; omega
  · simp only [List.map_cons,List.map_nil]
    rw [below_full (fun u hu=>?_)]
    · simp
    · rcases List.mem_append.1 hu with hu | hu
      · have:=h u hu; omega
      · simp at hu; subst hu; omega
theorem last_is {l:List Int} (hl:l.Pairwise (· < ·)) {x:Int} (hx:x∈l) (hm:∀ y∈l,y≤x):at0 l ((l.length:Int) - 1)=x:=by
  obtain ⟨q,hq,e⟩:=mem_at0 hx
  by_cases h:q=l.length - 1
  · subst h; rw [←e]; congr 1; omega
  · have h1:=incr_at hl (show q<l.length - 1 by omega) (by omega)
    have h2:=hm _ (at0_mem (xs:=l) (i:=((l.length - 1:Nat):Int)) (by omega) (by omega))
    omega
theorem stS_old {n:Nat} {T:List Triple} {t:Triple} (h0:0≤t.Row) (h1:t.Row<n) (h:∃ u∈T,u.Row=t.Row) (hm:∀ u∈T,u.Row≤t.Row):stS n (T++[t])=(stS n T).set (atS n T).length ((T.length:Int)+1):=by
  obtain ⟨u,hu,eu⟩:=h
  have hmem:t.Row∈atS n T:=atS_mem.2 ⟨⟨h0,h1⟩,u,hu,eu⟩
  have hmax:∀ y∈atS n T,y≤t.Row:=fun y hy=>by obtain ⟨_,v,hv,rfl⟩:=atS_mem.1 hy; exact hm v hv
  have hlast:=last_is (atS_incr n T) hmem hmax
  have hpos:0<(atS n T).length:=List.length_pos_of_mem hmem
  unfold stS
  rw [atS_old ⟨u,hu,eu⟩]
  obtain ⟨m,hm'⟩:∃ m,(atS n T).length=m+1:=⟨(atS n T).length - 1,by omega⟩
  rw [hm',List.set_cons_succ]
  congr 1
  apply List.ext_getElem?
  intro i
  by_cases hi:i<m+1
  · have hil:i<(atS n T).length:=by omega
    have ei:(atS n T)[i]=at0 (atS n T) i:=by unfold at0; simp [List.getD_eq_getElem?_getD,hil]
    by_cases e:m=i
    · subst e
      rw [List.getElem?_set_self (by simp; omega)]
      simp only [List.getElem?_map,List.getElem?_eq_getElem hil,Option.map_some,ei]
      rw [hm',show ((m+1:Nat):Int) - 1=(m:Int) by omega] at hlast
      rw [hlast,below_full (fun v hv=>?_)]
      · simp
      · rcases List.mem_append.1 hv with hv | hv
        · have:=hm v hv; omega
        · simp at hv; subst hv; omega
    · rw [List.getElem?_set_ne e]
      simp only [List.getElem?_map,List.getElem?_eq_getElem hil,Option.map_some,ei]
      have h2:=incr_at (atS_incr n T) (show i<m by omega) (by omega)
      rw [hm',show ((m+1:Nat):Int) - 1=(m:Int) by omega] at hlast
      rw [hlast] at h2
      have h3:=(at_in hil).1
      rw [below_snoc,if_neg (by omega)]; simp
  · rw [List.getElem?_eq_none (by simp; omega),List.getElem?_eq_none (by simp; omega)]
theorem srt_le {T:List Triple} (h:Srt T) {i:Nat} (hi:i<T.length):∀ u∈T.take i,u.Row≤T[i].Row:=by
  intro u hu
  obtain ⟨j,hj,rfl⟩:=List.getElem_of_mem hu
  simp only [List.length_take] at hj
  rw [List.getElem_take]
  have:=List.pairwise_iff_getElem.1 h j i (by omega) hi (by omega)
  unfold ltK key at this
  simp only at this; omega
theorem built_canon {rows cols:Int} {ts ts':List Triple} (h:Canon rows cols ts) (h':Canon rows cols ts') (e:builtS rows cols ts=builtS rows cols ts'):ts=ts':=by
  have hb:∀ {ts:List Triple},Canon rows cols ts→trip (builtS rows cols ts)=ts:=fun {ts} h=>by
    apply List.ext_getElem?
    intro p
    unfold trip
    have hl:(builtS rows cols ts).Col.length=ts.length:=by simp [builtS]
    rw [hl]
    by_cases hp:p<ts.length
    · rw [List.getElem?_map,List.getElem?_range hp,List.getElem?_eq_getElem hp]
      simp only [Option.map_some,Option.some.injEq]
      have e1:at0 (builtS rows cols ts).Col p=ts[p].Col:=by show at0 (ts.map (·.Col)) p=_; rw [at0_map (by omega) (by omega)]; rfl
      have e2:at0 (builtS rows cols ts).Val p=ts[p].Val:=by show at0 (ts.map (·.Val)) p=_; rw [at0_map (by omega) (by omega)]; rfl
      have hin:=h.inn _ (List.getElem_mem hp)
      unfold inT at hin
      have hr0:=h.r0
      have e3:rowOf (builtS rows cols ts) p=ts[p].Row:=by
        have key:∀ v:Nat,(v:Int)≤rows→(rowOf (builtS rows cols ts) p<v↔ts[p].Row<v):=fun v hv=>by
          rw [rowOf_lt h.right p v hv,start_at (by omega) hv,Int.toNat_natCast]; exact (h.srt.row v p hp).symm
        have k1:=key ts[p].Row.toNat (by omega)
        have k2:=key (ts[p].Row.toNat+1) (by omega)
        omega
      rw [e1,e2,e3]
    · rw [List.getElem?_eq_none (by simp; omega),List.getElem?_eq_none (by omega)]
  rw [←hb h,←hb h',e]
theorem take_snoc {T:List Triple} {i:Nat} (hi:i<T.length):T.take (i+1)=T.take i++[T[i]]:=List.take_succ_eq_append_getElem hi
theorem dcsc_of_ok {a:Rows} {rows cols:Int} {ts:List Triple} {Q:Columns→Prop} (hl:small a) (hb:sureS a=builtS rows cols ts) (hR:RightP a→a=builtS rows cols ts) (hN:¬RightP a→rows=0∧cols=0∧ts=[]) (h:Canon rows cols ts) (hQ:Q (colS rows cols (turnT cols ts))):dcsc_Of a Q:=by
  unfold dcsc_Of dcsc_none
  refine right_ok hl (ifP_not (fun hr=>?_) (fun hr=>?_))
  · obtain ⟨rfl,rfl,rfl⟩:=hN (by simpa using hr)
    rw [show turnT 0 ([]:List Triple)=[] from rfl,colS_nil] at hQ
    exact hQ
  have hr:RightP a:=by simpa using hr
  have hT:=turn_canon h
  refine csr_turn_ok hl hb h (csr_triples_ok hT.sml (sure_built hT) hT ?_)
  generalize turnT cols ts=T at hT hQ
  have hlen:=hT.len; have hc0:=hT.r0; have hc1:=hT.r1
  have hat:=fun i=>atS_len cols.toNat (T.take i)
  refine range_intro (fun (s:List Int×List Int×List Int×List Int) (i:Int)=>(s.1,s.2.1,s.2.2.1,s.2.2.2,i)) 0 T.length (by omega) (fun i s=>s=(atS cols.toNat (T.take i),stS cols.toNat (T.take i),(T.take i).map (·.Col),(T.take i).map (·.Val))) (by omega) (s0:=([],[0],[],[])) (by simp [atS_nil,stS_nil]) (fun i s next _ hi hm hn=>?_) (fun s next hm=>?_)
  · subst hm
    dsimp only
    have hin:=hT.inn _ (List.getElem_mem hi)
    unfold inT at hin
    have hle:=srt_le hT.srt hi
    refine ifP_dec (fun _=>?_) (fun h=>by omega)
    refine idxP_nat hi ?_
    have hlt:(T.take i).length=i:=by simp; omega
    have hln:=hat i
    have fin:∀ (at' st':List Int),at'=atS cols.toNat (T.take (i+1))→st'.set at'.length ((i:Int)+1)=stS cols.toNat (T.take (i+1))→at'.length<st'.length →
        appP 8 ((T.take i).map (·.Col)) [T[i].Col] fun _=>appP 8 ((T.take i).map (·.Val)) [T[i].Val] fun _=>idxP st' (at'.length:Int) fun _=>next (at',st'.set (at'.length:Int).toNat (((T.take i).map (·.Col)++[T[i].Col]).length:Int),(T.take i).map (·.Col)++[T[i].Col],(T.take i).map (·.Val)++[T[i].Val],w64 ((i:Int)+1)):=fun at' st' e1 e2 e3=>by
      refine appP_intro (by simp; omega) (appP_intro (by simp; omega) (idxP_nat e3 (hn (at',st'.set _ _,_,_) ?_)))
      have e4:(((T.take i).map (·.Col)++[T[i].Col]).length:Int)=(i:Int)+1:=by simp; omega
      rw [e4,Int.toNat_natCast,e2,e1,take_snoc hi,List.map_append,List.map_append]; rfl
    refine join_intro (fun s:List Int×List Int=>s.1=atS cols.toNat (T.take (i+1))∧s.2.set s.1.length ((i:Int)+1)=stS cols.toNat (T.take (i+1))∧s.1.length<s.2.length) (fun s hs=>fin s.1 s.2 hs.1 hs.2.1 hs.2.2) (fun k hk=>?_)
    by_cases hnew:∃ u∈T.take i,u.Row=T[i].Row
    · have e1:=atS_old (n:=cols.toNat) hnew
      have e2:=stS_old (n:=cols.toNat) (by omega) (by omega) hnew hle
      rw [←take_snoc hi] at e1 e2
      rw [hlt] at e2
      obtain ⟨u,hu,eu⟩:=hnew
      have hmem:T[i].Row∈atS cols.toNat (T.take i):=atS_mem.2 ⟨⟨by omega,by omega⟩,u,hu,eu⟩
      have hpos:=List.length_pos_of_mem hmem
      have hlast:=last_is (atS_incr _ _) hmem (fun y hy=>by obtain ⟨_,v,hv,rfl⟩:=atS_mem.1 hy; exact hle v hv)
      refine join_intro (fun b=>b=false) (fun b hb=>by subst hb; exact ifP_neg rfl (hk _ ⟨e1.symm,e2.symm,by rw [st_len]; exact Nat.lt_succ_self _⟩)) (fun k2 hk2=>?_)
      refine ifP_eq (fun h=>by omega) (fun _=>?_)
      rw [w64_id (by omega) (by omega)]
      refine idxP_at0 (by omega) (by omega) (hk2 _ ?_)
      rw [hlast]; simp
    · have hlts:∀ u∈T.take i,u.Row<T[i].Row:=fun u hu=>by
        have h1:=hle u hu
        have h2:u.Row≠T[i].Row:=fun e=>hnew ⟨u,hu,e⟩
        omega
      have e1:=atS_new (n:=cols.toNat) (by omega) (by omega) hlts
      have e2:=stS_new (n:=cols.toNat) (by omega) (by omega) hlts
      rw [←take_snoc hi] at e1 e2
      rw [hlt] at e2
      refine join_intro (fun b=>b=true) (fun b hb=>?_) (fun k2 hk2=>?_)
      · subst hb
        refine ifP_pos rfl (appP_intro (by simp; omega) (appP_intro (by simp [st_len]; omega) (hk _ ⟨e1.symm,?_,?_⟩)))
        · rw [e2,List.length_append,List.length_singleton,←st_len,List.set_append_right _ _ (Nat.le_refl _)]; simp
        · simp [st_len]
      · refine ifP_eq (fun _=>hk2 _ rfl) (fun h0=>?_)
        rw [w64_id (by omega) (by omega)]
        refine idxP_at0 (by omega) (by omega) (hk2 _ ?_)
        have hne:at0 (atS cols.toNat (T.take i)) (((atS cols.toNat (T.take i)).length:Int) - 1)≠T[i].Row:=fun e=>by
          obtain ⟨_,u,hu,e'⟩:=atS_mem.1 (at0_mem (xs:=atS cols.toNat (T.take i)) (i:=((atS cols.toNat (T.take i)).length:Int) - 1) (by omega) (by omega))
          exact hnew ⟨u,hu,e'.trans e⟩
        simpa using hne
  · subst hm
    dsimp only
    refine ifP_dec (fun h=>by omega) (fun _=>?_)
    rw [List.take_length,hR hr]
    exact hQ
theorem place_ok {c:Columns} {k:Int} {Q:Int→Prop} (hs:c.At.Pairwise (· < ·)) (hl:c.At.length≤1000000000) (h1:∀ j:Nat,j<c.At.length→at0 c.At j=k→Q j) (h2:(∀ j:Nat,j<c.At.length→at0 c.At j≠k)→Q (-1)):dcsc_place c k Q:=by
  unfold dcsc_place
  refine join_intro (fun s:Int×Int=>(s.1<s.2∧∃ j:Nat,s.1=j∧j<c.At.length∧at0 c.At j=k)∨(¬s.1<s.2∧∀ j:Nat,j<c.At.length→at0 c.At j≠k)) (fun s hs=>?_) (fun kk hkk=>?_)
  · obtain ⟨s1,s2⟩:=s
    dsimp only
    rcases hs with ⟨hlt,j,rfl,hj,e⟩ | ⟨hge,hno⟩
    · exact ifP_dec (fun _=>h1 j hj e) (fun h=>absurd hlt h)
    · exact ifP_dec (fun h=>absurd h hge) (fun _=>h2 hno)
  refine loop_intro (fun s:Int×Int=>∃ lo hi:Nat,s=((lo:Int),(hi:Int))∧lo≤hi∧hi≤c.At.length∧(∀ j:Nat,j<lo→at0 c.At j<k)∧∀ j:Nat,hi≤j→j<c.At.length→k<at0 c.At j) (fun s=>(s.2 - s.1).toNat) ⟨0,c.At.length,rfl,by omega,by omega,by omega,by omega⟩ ?_
  rintro _ next ⟨lo,hi,rfl,hlh,hhl,hL,hH⟩ hn
  dsimp only
  refine ifP_dec (fun h=>?_) (fun h=>hkk _ (.inr ⟨h,fun j hj e=>?_⟩))
  · obtain ⟨m,hm⟩:∃ m:Nat,m=lo+(hi - lo) / 2:=⟨_,rfl⟩
    have em:w64 ((lo:Int)+(w64 ((w64 ((hi:Int) - lo)).tdiv 2)))=(m:Int):=by
      rw [w64_id (x:=(hi:Int) - lo) (by omega) (by omega),Int.tdiv_eq_ediv_of_nonneg (by omega),w64_id (x:=((hi:Int) - lo) / 2) (by omega) (by omega),w64_id (by omega) (by omega)]
      omega
    rw [em]
    have e2:w64 ((m:Int)+1)=((m+1:Nat):Int):=by rw [w64_id (by omega) (by omega)]; omega
    rw [e2]
    refine idxP_at0 (by omega) (by omega) (ifP_eq (fun e=>hkk _ (.inl ⟨by dsimp only; omega,m,rfl,by omega,e⟩)) (fun e=>?_))
    refine idxP_at0 (by omega) (by omega) (ifP_dec (fun hlt=>hn _ ⟨m+1,hi,rfl,by omega,hhl,fun j hj=>?_,hH⟩ (by simp only; omega)) (fun hge=>hn _ ⟨lo,m,rfl,by omega,by omega,hL,fun j hj hjl=>?_⟩ (by simp only; omega)))
    · by_cases e':j=m
      · subst e'; exact hlt
      · have:=incr_at hs (show j<m by omega) (by omega); omega
    · by_cases e':j=m
      · subst e'; omega
      · have:=incr_at hs (show m<j by omega) hjl; omega
  · rcases Nat.lt_or_ge j lo with hc | hc
    · have:=hL j hc; omega
    · have:=hH j (by omega) hj; omega
end Go.Proofs.YtpackolbhcmomaaGreat
