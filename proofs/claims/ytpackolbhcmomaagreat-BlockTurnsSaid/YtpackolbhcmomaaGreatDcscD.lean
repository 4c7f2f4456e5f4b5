import Derived.Test.YtpackolbhcmomaaGreatDcscA
namespace Go.Proofs.YtpackolbhcmomaaGreat
open Go Go.Fw
set_option linter.unusedVariables false
set_option linter.unusedSimpArgs false
theorem Canon.colp {rows cols:Int} {T:List Triple} (h:Canon cols rows T):ColP (colS rows cols T) where
  r0:=h.c0
  r1:=h.c1
  c0:=h.r0
  c1:=h.r1
  sl:=by simp [colS,st_len]
  vl:=by simp [colS]
  cl:=by simpa [colS] using h.len
  s0:=rfl
  sn:=by
    show at0 (stS cols.toNat T) (atS cols.toNat T).length=((T.map (·.Col)).length:Int)
    rw [List.length_map]
    cases hl:(atS cols.toNat T).length with
    | zero=>
      have hn:T=[]:=by
        rcases T with _ | ⟨t,T⟩
        · rfl
        · obtain ⟨q,hq,_⟩:=row_at h (t:=t) (by simp)
          omega
      subst hn; rfl
    | succ n=>
      have hj:n<(atS cols.toNat T).length:=by omega
      rw [show ((n+1:Nat):Int)=(n:Int)+1 by omega,st_hi hj]
      unfold below
      rw [List.countP_eq_length.2]
      intro t ht
      obtain ⟨q,hq,e⟩:=row_at h ht
      simp only [decide_eq_true_eq]
      rw [←e]
      have h0:=(at_in hj).1
      by_cases e1:q=n
      · subst e1; omega
      · have:=incr_at (atS_incr cols.toNat T) (show q<n by omega) hj; omega
  at_ i hi:=by
    have h0:=(at_in (T:=T) (n:=cols.toNat) hi).1
    refine ⟨h0.1,by have:=h.r0; show at0 (atS cols.toNat T) i<cols; omega,fun hp=>?_⟩
    have:=incr_at (atS_incr cols.toNat T) (show i - 1<i by omega) hi
    rw [show ((i - 1:Nat):Int)=(i:Int) - 1 by omega] at this
    exact this
  up i hi:=by
    obtain ⟨x,lo,hi',h1,h2,h3,h4,h5,s⟩:=h.colseg hi
    show at0 (stS cols.toNat T) i<at0 (stS cols.toNat T) ((i:Int)+1)
    omega
  row i hi:=by
    obtain ⟨x,lo,hi',h1,h2,h3,h4,h5,s⟩:=h.colseg hi
    intro j hj1 hj2
    have hj1:at0 (stS cols.toNat T) i≤j:=hj1
    have hj2:(j:Int)<at0 (stS cols.toNat T) ((i:Int)+1):=hj2
    show 0≤at0 (T.map (·.Col)) j∧at0 (T.map (·.Col)) j<rows∧(at0 (stS cols.toNat T) i<j→at0 (T.map (·.Col)) ((j:Int) - 1)<at0 (T.map (·.Col)) j)
    have hl:=s.len
    have hjl:j<T.length:=by omega
    have hc:at0 (T.map (·.Col)) j=T[j].Col:=by rw [at0_map (by omega) (by omega)]; rfl
    have hin:=h.inn _ (List.getElem_mem hjl)
    unfold inT at hin
    refine ⟨by rw [hc]; omega,by rw [hc]; omega,fun hlt=>?_⟩
    obtain ⟨q,rfl⟩:∃ q,j=q+1:=⟨j - 1,by omega⟩
    have hc2:at0 (T.map (·.Col)) (((q+1:Nat):Int) - 1)=T[q].Col:=by rw [at0_map (by omega) (by simp; omega)]; simp
    have r1:=s.row q (by omega) (by omega) (by omega)
    have r2:=s.row (q+1) hjl (by omega) (by omega)
    have hs:=List.pairwise_iff_getElem.1 h.srt q (q+1) (by omega) hjl (by omega)
    unfold ltK key at hs
    simp only at hs
    rw [hc,hc2]; omega
def idxC (c:Columns) (p:Nat):Nat:=(List.range c.At.length).countP fun i:Nat=>decide (at0 c.Start ((i:Int)+1)≤p)
def tripC (c:Columns):List Triple:=(List.range c.Row.length).map fun p=>⟨at0 c.At (idxC c p),at0 c.Row p,at0 c.Val p⟩
theorem idxC_lt {c:Columns} (h:ColP c) (p v:Nat) (hv:v≤c.At.length):idxC c p<v↔(p:Int)<at0 c.Start v:=by
  cases v with
  | zero=>have:=h.s0; rw [show ((0:Nat):Int)=0 from rfl,this]; omega
  | succ v=>
    have hm:=mono_count (q:=fun i:Nat=>decide (at0 c.Start ((i:Int)+1)≤p)) (l:=List.range c.At.length) (by
      rw [List.pairwise_iff_getElem]
      intro i j hi hj hij
      simp only [List.getElem_range,decide_eq_true_eq]
      intro hh
      simp at hj
      have:=lt_le h.up (i:=i+1) (j:=j+1) (by omega) (by omega)
      have e1:((i+1:Nat):Int)=(i:Int)+1:=by omega
      have e2:((j+1:Nat):Int)=(j:Int)+1:=by omega
      rw [e1,e2] at this; omega) v (by simp; omega)
    simp only [List.getElem_range,decide_eq_true_eq] at hm
    have e2:((v+1:Nat):Int)=(v:Int)+1:=by omega
    rw [e2]
    unfold idxC
    omega
theorem riseC {c:Columns} (h:ColP c) {i p q:Nat} (hi:i<c.At.length) (h1:at0 c.Start i≤p) (h2:(q:Int)<at0 c.Start ((i:Int)+1)) (hpq:p<q):at0 c.Row p<at0 c.Row q:=by
  induction q with
  | zero=>omega
  | succ q ih=>
    have:=(h.row i hi (q+1) (by omega) h2).2.2 (by omega)
    rw [show ((q+1:Nat):Int) - 1=q by omega] at this
    by_cases e:p=q
    · subst e; exact this
    · have:=ih (by omega) (by omega); omega
theorem atC_incr {c:Columns} (h:ColP c):c.At.Pairwise (· < ·):=by
  rw [List.pairwise_iff_getElem]
  intro i j hi hj hij
  have e:∀ k (hk:k<c.At.length),c.At[k]=at0 c.At k:=fun k hk=>by unfold at0; simp [List.getD_eq_getElem?_getD,hk]
  rw [e,e]
  induction j with
  | zero=>omega
  | succ j ih=>
    have:=(h.at_ (j+1) hj).2.2 (by omega)
    rw [show ((j+1:Nat):Int) - 1=j by omega] at this
    by_cases e:i=j
    · subst e; exact this
    · have:=ih (by omega) (by omega); omega
theorem ColP.canon {c:Columns} (h:ColP c):Canon c.Cols c.Rows (tripC c)∧c=colS c.Rows c.Cols (tripC c):=by
  have hinc:=atC_incr h
  have hlt:∀ p:Nat,p<c.Row.length→idxC c p<c.At.length:=fun p hp=>(idxC_lt h p _ (Nat.le_refl _)).2 (by have:=h.sn; omega)
  have hst:∀ (p:Nat),p<c.Row.length→at0 c.Start (idxC c p)≤p∧(p:Int)<at0 c.Start ((idxC c p:Nat)+1):=fun p hp=>by
    have h0:=hlt p hp
    have h1:=idxC_lt h p (idxC c p) (by omega)
    have h2:=idxC_lt h p (idxC c p+1) (by omega)
    rw [show ((idxC c p+1:Nat):Int)=(idxC c p:Int)+1 by omega] at h2
    omega
  have hcan:Canon c.Cols c.Rows (tripC c):=by
    refine ⟨h.c0,h.c1,h.r0,h.r1,by simpa [tripC] using h.cl,?_,?_⟩
    · unfold Srt tripC
      rw [List.pairwise_map,List.pairwise_iff_getElem]
      intro i j hi hj hij
      have hi:i<c.Row.length:=by simpa using hi
      have hj:j<c.Row.length:=by simpa using hj
      simp only [List.getElem_range]
      have h1:=hst i hi
      have h2:=hst j hj
      have hri':=hlt i hi
      have hrj':=hlt j hj
      have hle:idxC c i≤idxC c j:=by
        have:=idxC_lt h i (idxC c j+1) (by omega)
        rw [show ((idxC c j+1:Nat):Int)=(idxC c j:Int)+1 by omega] at this
        omega
      unfold ltK key
      simp only
      by_cases e:idxC c i=idxC c j
      · rw [e]
        rw [e] at h1
        exact .inr ⟨rfl,riseC h hrj' h1.1 h2.2 hij⟩
      · left; exact incr_at hinc (by omega) hrj'
    · intro t ht
      obtain ⟨p,hp,rfl⟩:=List.mem_map.1 ht
      simp only [List.mem_range] at hp
      have h0:=hlt p hp
      have h1:=hst p hp
      have h2:=h.row _ h0 p h1.1 h1.2
      have h3:=h.at_ _ h0
      unfold inT
      simp only
      omega
  refine ⟨hcan,?_⟩
  have hat:atS c.Cols.toNat (tripC c)=c.At:=by
    refine incr_ext (atS_incr _ _) hinc fun x=>?_
    rw [atS_mem]
    constructor
    · rintro ⟨_,t,ht,rfl⟩
      obtain ⟨p,hp,rfl⟩:=List.mem_map.1 ht
      simp only [List.mem_range] at hp
      exact at0_mem (by omega) (by have:=hlt p hp; omega)
    · intro hx
      obtain ⟨i,hi,rfl⟩:=mem_at0 hx
      have h3:=h.at_ i hi
      have h4:=h.up i hi
      have h5:=lt_le h.up (i:=0) (j:=i) (by omega) (by omega)
      have h6:=lt_le h.up (i:=i+1) (j:=c.At.length) (by omega) (by omega)
      have h7:=h.s0; have h8:=h.sn
      rw [show ((0:Nat):Int)=0 from rfl] at h5
      rw [show ((i+1:Nat):Int)=(i:Int)+1 by omega] at h6
      obtain ⟨p,hp⟩:∃ p:Nat,at0 c.Start i=p:=⟨(at0 c.Start i).toNat,by omega⟩
      have hpl:p<c.Row.length:=by omega
      have e:idxC c p=i:=by
        have g1:=idxC_lt h p i (by omega)
        have g2:=idxC_lt h p (i+1) (by omega)
        rw [show ((i+1:Nat):Int)=(i:Int)+1 by omega] at g2
        omega
      have:=h.c0
      exact ⟨⟨by omega,by omega⟩,_,List.mem_map.2 ⟨p,by simpa using hpl,rfl⟩,by simp only [e]⟩
  have hb:∀ i:Nat,i<c.At.length→below (tripC c) ((at0 c.At i).toNat+1)=at0 c.Start ((i:Int)+1):=by
    intro i hi
    unfold below tripC
    rw [List.countP_map]
    have h3:=h.at_ i hi
    have h1:0≤at0 c.Start ((i:Int)+1):=by
      have:=lt_le h.up (i:=0) (j:=i+1) (by omega) (by omega)
      have h0:=h.s0
      rw [show ((0:Nat):Int)=0 from rfl,h0,show ((i+1:Nat):Int)=(i:Int)+1 by omega] at this; exact this
    have h2:at0 c.Start ((i:Int)+1)≤c.Row.length:=by
      have:=lt_le h.up (i:=i+1) (j:=c.At.length) (by omega) (by omega)
      have h0:=h.sn
      rw [h0,show ((i+1:Nat):Int)=(i:Int)+1 by omega] at this; exact this
    refine Eq.trans ?_ (countP_lt (at0 c.Start ((i:Int)+1)) h1 c.Row.length h2)
    congr 1
    apply List.countP_congr
    intro p hp
    simp only [List.mem_range] at hp
    simp only [Function.comp_apply,decide_eq_true_eq]
    have h4:=idxC_lt h p (i+1) (by omega)
    rw [show ((i+1:Nat):Int)=(i:Int)+1 by omega] at h4
    rw [←h4]
    have h5:=hlt p hp
    have h6:=h.at_ _ h5
    constructor
    · intro hh
      rcases Nat.lt_or_ge (idxC c p) (i+1) with hc | hc
      · exact hc
      · exfalso
        have:=incr_at hinc (show i<idxC c p by omega) h5
        omega
    · intro hh
      by_cases e:idxC c p=i
      · rw [e]; omega
      · have:=incr_at hinc (show idxC c p<i by omega) hi
        omega
  have hcl:=h.vl
  have e1:c.Start=stS c.Cols.toNat (tripC c):=by
    apply List.ext_getElem?
    intro i
    unfold stS
    rw [hat]
    have hsl:=h.sl
    cases i with
    | zero=>
      have:=h.s0
      unfold at0 at this
      rw [List.getD_eq_getElem?_getD] at this
      have hl:0<c.Start.length:=by omega
      simp [List.getElem?_eq_getElem hl] at this ⊢
      exact this
    | succ i=>
      by_cases hi:i<c.At.length
      · have:=hb i hi
        have hl:i+1<c.Start.length:=by omega
        have e2:at0 c.At i=c.At[i]:=by unfold at0; simp [List.getD_eq_getElem?_getD,hi]
        have e3:at0 c.Start ((i:Int)+1)=c.Start[i+1]:=by unfold at0; rw [show ((i:Int)+1).toNat=i+1 by omega]; simp [List.getD_eq_getElem?_getD,hl]
        rw [e2,e3] at this
        simp [hl,hi,this]
      · rw [List.getElem?_eq_none (by omega),List.getElem?_eq_none (by simp; omega)]
  have e2:c.Row=(tripC c).map (·.Col):=by unfold tripC; simp only [List.map_map]; exact (map_at0 c.Row _ rfl).symm
  have e3:c.Val=(tripC c).map (·.Val):=by unfold tripC; simp only [List.map_map]; exact (map_at0 c.Val _ h.vl).symm
  cases c
  unfold colS
  simp only at hat e1 e2 e3 ⊢
  rw [hat,←e1,←e2,←e3]
theorem colS_nil:colS 0 0 []=⟨0,0,[],[0],[],[]⟩:=by simp [colS,atS,stS]
noncomputable def sureC (c:Columns):Columns:=if ColP c then c else colS 0 0 []
theorem sureC_col {rows cols:Int} {T:List Triple} (h:Canon cols rows T):sureC (colS rows cols T)=colS rows cols T:=by
  unfold sureC; rw [if_pos h.colp]
theorem dcsc_sure_ok {c:Columns} {Q:Columns→Prop} (hl:smallC c) (hQ:Q (sureC c)):dcsc_sure c Q:=by
  unfold dcsc_sure dcsc_none
  unfold sureC at hQ
  refine dcsc_right_ok hl (ifP_dec (fun h=>?_) (fun h=>?_))
  · rwa [if_pos h] at hQ
  · rwa [if_neg h,colS_nil] at hQ
theorem Canon.smlC {rows cols:Int} {T:List Triple} (h:Canon cols rows T):smallC (colS rows cols T):=by
  have:=h.r1; have:=h.len; have:=atS_len cols.toNat T
  unfold smallC colS
  simp only [List.length_map,st_len]
  omega
theorem atS_old {n:Nat} {T:List Triple} {t:Triple} (h:∃ u∈T,u.Row=t.Row):atS n (T++[t])=atS n T:=by
  refine incr_ext (atS_incr _ _) (atS_incr _ _) fun x=>?_
  rw [atS_mem,atS_mem]
  obtain ⟨u,hu,e⟩:=h
  constructor
  · rintro ⟨h1,v,hv,rfl⟩
    rcases List.mem_append.1 hv with hv | hv
    · exact ⟨h1,v,hv,rfl⟩
    · simp at hv; subst hv; exact ⟨h1,u,hu,e⟩
  · rintro ⟨h1,v,hv,e'⟩; exact ⟨h1,v,by simp [hv],e'⟩
theorem atS_new {n:Nat} {T:List Triple} {t:Triple} (h0:0≤t.Row) (h1:t.Row<n) (h:∀ u∈T,u.Row<t.Row):atS n (T++[t])=atS n T++[t.Row]:=by
  refine incr_ext (atS_incr _ _) ?_ fun x=>?_
  · rw [List.pairwise_append]
    refine ⟨atS_incr _ _,by simp,fun a ha b hb=>?_⟩
    simp at hb; subst hb
    obtain ⟨_,u,hu,rfl⟩:=atS_mem.1 ha
    exact h u hu
  · rw [List.mem_append,atS_mem,atS_mem]
    constructor
    · rintro ⟨g,v,hv,rfl⟩
      rcases List.mem_append.1 hv with hv | hv
      · exact .inl ⟨g,v,hv,rfl⟩
      · simp at hv; subst hv; simp
    · rintro (⟨g,v,hv,e⟩ | hx)
      · exact ⟨g,v,by simp [hv],e⟩
      · simp at hx; subst hx; exact ⟨⟨h0,h1⟩,t,by simp,rfl⟩
theorem atS_nil (n:Nat):atS n []=[]:=by unfold atS; rw [List.filter_eq_nil_iff.2 (by simp [anyR])]; rfl
theorem stS_nil (n:Nat):stS n []=[0]:=by unfold stS; rw [atS_nil]; rfl
theorem below_full {T:List Triple} {x:Nat} (h:∀ u∈T,u.Row<(x:Int)):below T x=T.length:=by
  unfold below; rw [List.countP_eq_length.2]; intro t ht; simpa using h t ht
theorem stS_new {n:Nat} {T:List Triple} {t:Triple} (h0:0≤t.Row) (h1:t.Row<n) (h:∀ u∈T,u.Row<t.Row):stS n (T++[t])=stS n T++[(T.length:Int)+1]:=by
  unfold stS
  rw [atS_new h0 h1 h,List.map_append,List.cons_append]
  congr 2
  · refine List.map_congr_left fun x hx=>?_
    obtain ⟨_,u,hu,e⟩:=atS_mem.1 hx
    have:=h u hu
    rw [below_snoc,if_neg (by omega)]; omega
  · simp only [List.map_cons,List.map_nil]
    rw [below_full (fun u hu=>?_)]
    · simp
    · rcases List.mem_append.1 hu with hu | hu
      · have:=h u hu; omega
      · simp at hu; subst hu; omega
theorem last_is {l:List Int} (hl:l.Pairwise (· < ·)) {x:Int} (hx:x∈l) (hm:∀ y∈l,y≤x):at0 l ((l.length:Int) - 1)=x:=by
  obtain ⟨q,hq,e⟩:=mem_at0 hx
  by_cases h:q=l.length - 1
  · subst h; rw [←e]; congr 1; omega
  · have h1:=incr_at hl (show q<l.length - 1 by omega) (by omega)
    have h2:=hm _ (at0_mem (xs:=l) (i:=((l.length - 1:Nat):Int)) (by omega) (by omega))
    omega
theorem stS_old {n:Nat} {T:List Triple} {t:Triple} (h0:0≤t.Row) (h1:t.Row<n) (h:∃ u∈T,u.Row=t.Row) (hm:∀ u∈T,u.Row≤t.Row):stS n (T++[t])=(stS n T).set (atS n T).length ((T.length:Int)+1):=by
  obtain ⟨u,hu,eu⟩:=h
  have hmem:t.Row∈atS n T:=atS_mem.2 ⟨⟨h0,h1⟩,u,hu,eu⟩
  have hmax:∀ y∈atS n T,y≤t.Row:=fun y hy=>by obtain ⟨_,v,hv,rfl⟩:=atS_mem.1 hy; exact hm v hv
  have hlast:=last_is (atS_incr n T) hmem hmax
  have hpos:0<(atS n T).length:=List.length_pos_of_mem hmem
  unfold stS
  rw [atS_old ⟨u,hu,eu⟩]
  obtain ⟨m,hm'⟩:∃ m,(atS n T).length=m+1:=⟨(atS n T).length - 1,by omega⟩
  rw [hm',List.set_cons_succ]
  congr 1
  apply List.ext_getElem?
  intro i
  by_cases hi:i<m+1
  · have hil:i<(atS n T).length:=by omega
    have ei:(atS n T)[i]=at0 (atS n T) i:=by unfold at0; simp [List.getD_eq_getElem?_getD,hil]
    by_cases e:m=i
    · subst e
      rw [List.getElem?_set_self (by simp; omega)]
      simp only [List.getElem?_map,List.getElem?_eq_getElem hil,Option.map_some,ei]
      rw [hm',show ((m+1:Nat):Int) - 1=(m:Int) by omega] at hlast
      rw [hlast,below_full (fun v hv=>?_)]
      · simp
      · rcases List.mem_append.1 hv with hv | hv
        · have:=hm v hv; omega
        · simp at hv; subst hv; omega
    · rw [List.getElem?_set_ne e]
      simp only [List.getElem?_map,List.getElem?_eq_getElem hil,Option.map_some,ei]
      have h2:=incr_at (atS_incr n T) (show i<m by omega) (by omega)
      rw [hm',show ((m+1:Nat):Int) - 1=(m:Int) by omega] at hlast
      rw [hlast] at h2
      have h3:=(at_in hil).1
      rw [below_snoc,if_neg (by omega)]; simp
  · rw [List.getElem?_eq_none (by simp; omega),List.getElem?_eq_none (by simp; omega)]
theorem srt_le {T:List Triple} (h:Srt T) {i:Nat} (hi:i<T.length):∀ u∈T.take i,u.Row≤T[i].Row:=by
  intro u hu
  obtain ⟨j,hj,rfl⟩:=List.getElem_of_mem hu
  simp only [List.length_take] at hj
  rw [List.getElem_take]
  have:=List.pairwise_iff_getElem.1 h j i (by omega) hi (by omega)
  unfold ltK key at this
  simp only at this; omega
theorem take_snoc {T:List Triple} {i:Nat} (hi:i<T.length):T.take (i+1)=T.take i++[T[i]]:=List.take_succ_eq_append_getElem hi
theorem dcsc_of_ok {a:Rows} {rows cols:Int} {ts:List Triple} {Q:Columns→Prop} (hl:small a) (hb:sureS a=builtS rows cols ts) (hR:RightP a→a=builtS rows cols ts) (hN:¬RightP a→rows=0∧cols=0∧ts=[]) (h:Canon rows cols ts) (hQ:Q (colS rows cols (turnT cols ts))):dcsc_Of a Q:=by
  unfold dcsc_Of dcsc_none
  refine right_ok hl (ifP_not (fun hr=>?_) (fun hr=>?_))
  · obtain ⟨rfl,rfl,rfl⟩:=hN (by simpa using hr)
    rw [show turnT 0 ([]:List Triple)=[] from rfl,colS_nil] at hQ
    exact hQ
  have hr:RightP a:=by simpa using hr
  have hT:=turn_canon h
  refine csr_turn_ok hl hb h (csr_triples_ok hT.sml (sure_built hT) hT ?_)
  generalize turnT cols ts=T at hT hQ
  have hlen:=hT.len; have hc0:=hT.r0; have hc1:=hT.r1
  have hat:=fun i=>atS_len cols.toNat (T.take i)
  refine range_intro (fun (s:List Int×List Int×List Int×List Int) (i:Int)=>(s.1,s.2.1,s.2.2.1,s.2.2.2,i)) 0 T.length (by omega) (fun i s=>s=(atS cols.toNat (T.take i),stS cols.toNat (T.take i),(T.take i).map (·.Col),(T.take i).map (·.Val))) (by omega) (s0:=([],[0],[],[])) (by simp [atS_nil,stS_nil]) (fun i s next _ hi hm hn=>?_) (fun s next hm=>?_)
  · subst hm
    dsimp only
    have hin:=hT.inn _ (List.getElem_mem hi)
    unfold inT at hin
    have hle:=srt_le hT.srt hi
    refine ifP_dec (fun _=>?_) (fun h=>by omega)
    refine idxP_nat hi ?_
    have hlt:(T.take i).length=i:=by simp; omega
    have hln:=hat i
    have fin:∀ (at' st':List Int),at'=atS cols.toNat (T.take (i+1))→st'.set at'.length ((i:Int)+1)=stS cols.toNat (T.take (i+1))→at'.length<st'.length →
        appP 8 ((T.take i).map (·.Col)) [T[i].Col] fun _=>appP 8 ((T.take i).map (·.Val)) [T[i].Val] fun _=>idxP st' (at'.length:Int) fun _=>next (at',st'.set (at'.length:Int).toNat (((T.take i).map (·.Col)++[T[i].Col]).length:Int),(T.take i).map (·.Col)++[T[i].Col],(T.take i).map (·.Val)++[T[i].Val],w64 ((i:Int)+1)):=fun at' st' e1 e2 e3=>by
      refine appP_intro (by simp; omega) (appP_intro (by simp; omega) (idxP_nat e3 (hn (at',st'.set _ _,_,_) ?_)))
      have e4:(((T.take i).map (·.Col)++[T[i].Col]).length:Int)=(i:Int)+1:=by simp; omega
      rw [e4,Int.toNat_natCast,e2,e1,take_snoc hi,List.map_append,List.map_append]; rfl
    refine join_intro (fun s:List Int×List Int=>s.1=atS cols.toNat (T.take (i+1))∧s.2.set s.1.length ((i:Int)+1)=stS cols.toNat (T.take (i+1))∧s.1.length<s.2.length) (fun s hs=>fin s.1 s.2 hs.1 hs.2.1 hs.2.2) (fun k hk=>?_)
    by_cases hnew:∃ u∈T.take i,u.Row=T[i].Row
    · have e1:=atS_old (n:=cols.toNat) hnew
      have e2:=stS_old (n:=cols.toNat) (by omega) (by omega) hnew hle
      rw [←take_snoc hi] at e1 e2
      rw [hlt] at e2
      obtain ⟨u,hu,eu⟩:=hnew
      have hmem:T[i].Row∈atS cols.toNat (T.take i):=atS_mem.2 ⟨⟨by omega,by omega⟩,u,hu,eu⟩
      have hpos:=List.length_pos_of_mem hmem
      have hlast:=last_is (atS_incr _ _) hmem (fun y hy=>by obtain ⟨_,v,hv,rfl⟩:=atS_mem.1 hy; exact hle v hv)
      refine join_intro (fun b=>b=false) (fun b hb=>by subst hb; exact ifP_neg rfl (hk _ ⟨e1.symm,e2.symm,by rw [st_len]; exact Nat.lt_succ_self _⟩)) (fun k2 hk2=>?_)
      refine ifP_eq (fun h=>by omega) (fun _=>?_)
      rw [w64_id (by omega) (by omega)]
      refine idxP_at0 (by omega) (by omega) (hk2 _ ?_)
      rw [hlast]; simp
    · have hlts:∀ u∈T.take i,u.Row<T[i].Row:=fun u hu=>by
        have h1:=hle u hu
        have h2:u.Row≠T[i].Row:=fun e=>hnew ⟨u,hu,e⟩
        omega
      have e1:=atS_new (n:=cols.toNat) (by omega) (by omega) hlts
      have e2:=stS_new (n:=cols.toNat) (by omega) (by omega) hlts
      rw [←take_snoc hi] at e1 e2
      rw [hlt] at e2
      refine join_intro (fun b=>b=true) (fun b hb=>?_) (fun k2 hk2=>?_)
      · subst hb
        refine ifP_pos rfl (appP_intro (by simp; omega) (appP_intro (by simp [st_len]; omega) (hk _ ⟨e1.symm,?_,?_⟩)))
        · rw [e2,List.length_append,List.length_singleton,←st_len,List.set_append_right _ _ (Nat.le_refl _)]; simp
        · simp [st_len]
      · refine ifP_eq (fun _=>hk2 _ rfl) (fun h0=>?_)
        rw [w64_id (by omega) (by omega)]
        refine idxP_at0 (by omega) (by omega) (hk2 _ ?_)
        have hne:at0 (atS cols.toNat (T.take i)) (((atS cols.toNat (T.take i)).length:Int) - 1)≠T[i].Row:=fun e=>by
          obtain ⟨_,u,hu,e'⟩:=atS_mem.1 (at0_mem (xs:=atS cols.toNat (T.take i)) (i:=((atS cols.toNat (T.take i)).length:Int) - 1) (by omega) (by omega))
          exact hnew ⟨u,hu,e'.trans e⟩
        simpa using hne
  · subst hm
    dsimp only
    refine ifP_dec (fun h=>by omega) (fun _=>?_)
    rw [List.take_length,hR hr]
    exact hQ
theorem place_ok {c:Columns} {k:Int} {Q:Int→Prop} (hs:c.At.Pairwise (· < ·)) (hl:c.At.length≤1000000000) (h1:∀ j:Nat,j<c.At.length→at0 c.At j=k→Q j) (h2:(∀ j:Nat,j<c.At.length→at0 c.At j≠k)→Q (-1)):dcsc_place c k Q:=by
  unfold dcsc_place
  refine join_intro (fun s:Int×Int=>(s.1<s.2∧∃ j:Nat,s.1=j∧j<c.At.length∧at0 c.At j=k)∨(¬s.1<s.2∧∀ j:Nat,j<c.At.length→at0 c.At j≠k)) (fun s hs=>?_) (fun kk hkk=>?_)
  · obtain ⟨s1,s2⟩:=s
    dsimp only
    rcases hs with ⟨hlt,j,rfl,hj,e⟩ | ⟨hge,hno⟩
    · exact ifP_dec (fun _=>h1 j hj e) (fun h=>absurd hlt h)
    · exact ifP_dec (fun h=>absurd h hge) (fun _=>h2 hno)
  refine loop_intro (fun s:Int×Int=>∃ lo hi:Nat,s=((lo:Int),(hi:Int))∧lo≤hi∧hi≤c.At.length∧(∀ j:Nat,j<lo→at0 c.At j<k)∧∀ j:Nat,hi≤j→j<c.At.length→k<at0 c.At j) (fun s=>(s.2 - s.1).toNat) ⟨0,c.At.length,rfl,by omega,by omega,by omega,by omega⟩ ?_
  rintro _ next ⟨lo,hi,rfl,hlh,hhl,hL,hH⟩ hn
  dsimp only
  refine ifP_dec (fun h=>?_) (fun h=>hkk _ (.inr ⟨h,fun j hj e=>?_⟩))
  · obtain ⟨m,hm⟩:∃ m:Nat,m=lo+(hi - lo) / 2:=⟨_,rfl⟩
    have em:w64 ((lo:Int)+(w64 ((w64 ((hi:Int) - lo)).tdiv 2)))=(m:Int):=by
      rw [w64_id (x:=(hi:Int) - lo) (by omega) (by omega),Int.tdiv_eq_ediv_of_nonneg (by omega),w64_id (x:=((hi:Int) - lo) / 2) (by omega) (by omega),w64_id (by omega) (by omega)]
      omega
    rw [em]
    have e2:w64 ((m:Int)+1)=((m+1:Nat):Int):=by rw [w64_id (by omega) (by omega)]; omega
    rw [e2]
    refine idxP_at0 (by omega) (by omega) (ifP_eq (fun e=>hkk _ (.inl ⟨by dsimp only; omega,m,rfl,by omega,e⟩)) (fun e=>?_))
    refine idxP_at0 (by omega) (by omega) (ifP_dec (fun hlt=>hn _ ⟨m+1,hi,rfl,by omega,hhl,fun j hj=>?_,hH⟩ (by simp only; omega)) (fun hge=>hn _ ⟨lo,m,rfl,by omega,by omega,hL,fun j hj hjl=>?_⟩ (by simp only; omega)))
    · by_cases e':j=m
      · subst e'; exact hlt
      · have:=incr_at hs (show j<m by omega) (by omega); omega
    · by_cases e':j=m
      · subst e'; omega
      · have:=incr_at hs (show m<j by omega) hjl; omega
  · rcases Nat.lt_or_ge j lo with hc | hc
    · have:=hL j hc; omega
    · have:=hH j (by omega) hj; omega
def colI (T:List Triple) (k:Int):List Item:=(T.filter fun t=>decide (t.Row=k)).map itS
theorem colI_nat (T:List Triple) (k:Nat):colI T k=(segS T k).map itS:=rfl
theorem colI_none {T:List Triple} {n:Nat} {k:Int} (h:∀ t∈T,0≤t.Row∧t.Row<n) (hk:∀ j:Nat,j<(atS n T).length→at0 (atS n T) j≠k):colI T k=[]:=by
  unfold colI
  rw [List.filter_eq_nil_iff.2]; · rfl
  intro t ht
  simp only [decide_eq_true_eq]
  intro e
  have:=h t ht
  obtain ⟨j,hj,e'⟩:=mem_at0 (l:=atS n T) (x:=k) (atS_mem.2 ⟨⟨by omega,by omega⟩,t,ht,e⟩)
  exact hk j hj e'
theorem Canon.rowIn {rows cols:Int} {T:List Triple} (h:Canon cols rows T):∀ t∈T,0≤t.Row∧t.Row<(cols.toNat:Int):=fun t ht=>by
  have:=h.inn t ht; unfold inT at this; omega
theorem collect_ok {rows cols:Int} {T:List Triple} (h:Canon cols rows T) {j:Nat} (hj:j<(atS cols.toNat T).length) {Q:List Item→Prop} (hQ:Q (colI T (at0 (atS cols.toNat T) j))):slices_Collect_api_Item_d7d (colS rows cols T) j Q:=by
  unfold slices_Collect_api_Item_d7d slices_AppendSeq_api_Item_api_Item_828 dcsc_items_1_1ae
  obtain ⟨x,lo,hi,h1,h2,h3,h4,h5,s⟩:=h.colseg hj
  have hs:=st_len cols.toNat T
  have hlen:=h.len; have hsl:=s.len; have hc:=h.r1; have hal:=atS_len cols.toNat T
  have e1:w64 ((j:Int)+1)=(j:Int)+1:=w64_id (by omega) (by omega)
  have hst:(colS rows cols T).Start=stS cols.toNat T:=rfl
  rw [h1,colI_nat,←s.eq] at hQ
  rw [hst,e1]
  refine idxP_at0 (by omega) (by omega) ?_
  rw [h3]
  refine range_intro (fun (st:List Item) (i:Int)=>(st,i,0)) lo hi (by omega) (fun p st=>st=((T.take p).drop lo).map itS) (by omega) (s0:=[]) (by simp) (fun p st next hp1 hp2 hm hn=>?_) (fun st next hm=>?_)
  · subst hm
    dsimp only
    refine idxP_at0 (by omega) (by omega) ?_
    rw [h4]
    have hpl:p<T.length:=by omega
    refine ifP_dec (fun _=>?_) (fun h=>by omega)
    refine idxP_intro (by omega) (x:=T[p].Col) (by simp [colS,hpl]) (idxP_intro (by omega) (x:=T[p].Val) (by simp [colS,hpl]) ⟨rfl,appP_intro (by simp; omega) (ifP_neg rfl (hn _ ?_))⟩)
    rw [ext_step hp1 hpl,List.map_append]; rfl
  · subst hm
    dsimp only
    refine idxP_at0 (by omega) (by omega) ?_
    rw [h4]
    exact ifP_dec (fun h=>by omega) (fun _=>⟨rfl,hQ⟩)
theorem dcsc_column_ok {c:Columns} {rows cols k:Int} {T:List Triple} {Q:List Item→Prop} (hl:smallC c) (hc:sureC c=colS rows cols T) (h:Canon cols rows T) (hQ:Q (colI T k)):dcsc_Column c k Q:=by
  unfold dcsc_Column
  refine dcsc_sure_ok hl ?_
  rw [hc]
  have hal:=atS_len cols.toNat T; have hr:=h.r1
  refine place_ok (atS_incr _ _) (show (atS cols.toNat T).length≤1000000000 by omega) (fun j (hj:j<(atS cols.toNat T).length) (e:at0 (atS cols.toNat T) j=k)=>?_) (fun (hno:∀ j:Nat,j<(atS cols.toNat T).length→at0 (atS cols.toNat T) j≠k)=>?_)
  · refine ifP_dec (fun h=>by omega) (fun _=>?_)
    unfold dcsc_items_9d2
    exact collect_ok h hj (by rw [e]; exact hQ)
  · refine ifP_pos rfl ?_
    rwa [colI_none h.rowIn hno] at hQ
theorem colI_len (T:List Triple) (k:Int):(colI T k).length≤T.length:=by unfold colI; rw [List.length_map]; exact List.length_filter_le _ _
theorem turnT_vals {cols:Int} {T:List Triple} {rows:Int} (h:Canon rows cols T) (hv:∀ t∈T,inI t.Val):∀ t∈turnT cols T,inI t.Val:=fun t ht=>hv (flip t) ((turn_mem h t).1 ht)
end Go.Proofs.YtpackolbhcmomaaGreat
