import Derived.Test.YtpackolbhcmomaaGreatPushB
namespace Go.Proofs.YtpackolbhcmomaaGreat
open Go Go.Fw
set_option linter.unusedVariables false
set_option linter.unusedSimpArgs false
def la (out:List Sum):Sum:=out.getD (out.length - 1) default
def outS (r:Int) (out:List Sum) (s:Sum):List Sum:=if 0<out.length∧(la out).At=s.At then out.set (out.length - 1) ⟨(la out).At,addW r (la out).Val s.Val⟩ else out++[s]
theorem la_concat (p:List Sum) (y:Sum):la (p++[y])=y:=by simp [la]
theorem outS_concat (r:Int) (p:List Sum) (y s:Sum):outS r (p++[y]) s=if y.At=s.At then p++[⟨y.At,addW r y.Val s.Val⟩] else p++[y]++[s]:=by
  unfold outS
  rw [la_concat]
  by_cases e:y.At=s.At
  · rw [if_pos ⟨by simp,e⟩,if_pos e]
    simp
  · rw [if_neg (fun h=>e h.2),if_neg e]
theorem concat_cases (l:List Sum):l=[]∨∃ p y,l=p++[y]:=by
  rcases List.eq_nil_or_concat l with h | ⟨p,y,h⟩
  · exact .inl h
  · exact .inr ⟨p,y,by rw [h,List.concat_eq_append]⟩
theorem outS_prop {r:Int} {out:List Sum} {s:Sum} (h:Rise out) (ho:okS out) (hs:okW s.Val) (hle:∀ o∈out,o.At≤s.At) :
    Rise (outS r out s)∧okS (outS r out s)∧(outS r out s).length≤out.length+1∧(∀ o∈outS r out s,o.At≤s.At)∧(∀ i,lk (outS r out s) i=if i=s.At then cmb r (lk out i) (some s.Val) else lk out i):=by
  rcases concat_cases out with e | ⟨p,y,e⟩
  · subst e
    have:outS r [] s=[s]:=by simp [outS]
    rw [this]
    exact ⟨by simp [Rise],by simpa [okS] using hs,by simp,by simp,fun i=>by rw [lk_cons]; rfl⟩
  · subst e
    rw [outS_concat]
    have hp:∀ x∈p,x.At<y.At:=by
      intro x hx
      unfold Rise at h; rw [List.pairwise_append] at h
      exact h.2.2 x hx y (by simp)
    have hpr:Rise p:=by unfold Rise at h; rw [List.pairwise_append] at h; exact h.1
    have hyl:y.At≤s.At:=hle y (by simp)
    split
    · rename_i e
      refine ⟨List.pairwise_append.2 ⟨hpr,by simp,fun a ha b hb=>by simp only [List.mem_singleton] at hb; subst hb; exact hp a ha⟩,?_,by simp,?_,fun i=>?_⟩
      · intro x hx
        rcases List.mem_append.1 hx with hx | hx
        · exact ho x (by simp [hx])
        · simp only [List.mem_singleton] at hx; subst hx; exact addW_okW (ho y (by simp)) hs
      · intro x hx
        rcases List.mem_append.1 hx with hx | hx
        · have:=hp x hx; omega
        · simp only [List.mem_singleton] at hx; subst hx; exact hyl
      · rw [lk_append,lk_append,lk_cons,lk_cons,←e]
        simp only
        split
        · rename_i v hv
          rw [if_neg]
          intro e'; subst e'
          rw [lk_none (fun x hx=>by have:=hp x hx; omega)] at hv; cases hv
        · split <;> rfl
    · rename_i e
      have hlt:∀ x∈p++[y],x.At<s.At:=by
        intro x hx
        rcases List.mem_append.1 hx with hx | hx
        · have:=hp x hx; omega
        · simp only [List.mem_singleton] at hx; subst hx; omega
      refine ⟨List.pairwise_append.2 ⟨h,by simp,fun a ha b hb=>by simp only [List.mem_singleton] at hb; subst hb; exact hlt a ha⟩,?_,by simp,?_,fun i=>?_⟩
      · intro x hx
        rcases List.mem_append.1 hx with hx | hx
        · exact ho x hx
        · simp only [List.mem_singleton] at hx; subst hx; exact hs
      · intro x hx
        rcases List.mem_append.1 hx with hx | hx
        · have:=hlt x hx; omega
        · simp only [List.mem_singleton] at hx; subst hx; omega
      · rw [lk_append _ [s],lk_cons]
        by_cases ei:i=s.At
        · subst ei
          rw [if_pos rfl,if_pos rfl,lk_none (fun x hx=>by have:=hlt x hx; omega)]; rfl
        · rw [if_neg ei,if_neg ei,lk_nil]
          split <;> simp_all
theorem next_ok {o:Push_merger} {s:Sum} {t:List Sum} {Q:Push_merger→Prop} (hl:o.heads.length≤1000000000) (hf:full o.heads) (hh:Heap o.heads o.heads.length) (h0:o.heads≠[]) (hol:o.out.length≤1000000000)
    (ho:okS o.out) (hs:okW s.Val) (hx:(gH o.heads 0).l=s :: t)
    (hQ:∀ H H',(gH o.heads 0 :: H').Perm o.heads→H.Perm (if t=[] then H' else ⟨t,(gH o.heads 0).which⟩ :: H')→Heap H H.length→Q ⟨H,o.r,outS o.r o.out s⟩):push_merger_next_d58 o Q:=by
  unfold push_merger_next_d58
  have hlen:0<o.heads.length:=List.length_pos_iff.2 h0
  refine idxP_intro (x:=gH o.heads 0) (by omega) (gH_get hlen) (pop_ok hl hf hh h0 fun x H' hp hH=>?_)
  rw [hx]
  refine idxP_intro (x:=s) (by omega) rfl ⟨by omega,by simp; omega,by omega,?_⟩
  have et:((s :: t).take (((s :: t).length:Nat):Int).toNat).drop (Int.toNat 1)=t:=by simp
  rw [et]
  have hf':full H':=fun y hy=>hf y (hp.mem_iff.1 (List.mem_cons_of_mem _ hy))
  have hlH:H'.length≤o.heads.length:=by have:=hp.length_eq; simp at this; omega
  refine put_ok (o:=⟨H',o.r,o.out⟩) (by simp only; omega) hf' hH fun H hpH hHH=>?_
  have hQ':=hQ H H' hp hpH hHH
  simp only
  have key:∀ b,(b=true↔(0<o.out.length∧(la o.out).At=s.At))→(fun s216=>ifP s216 (idxP o.out (w64 ((o.out.length:Int) - 1)) fun x234=>ring_Add o.r x234.Val s.Val fun r238=>idxP o.out (w64 ((o.out.length:Int) - 1)) fun x243=>Q ({ heads:=H,r:=o.r,out:=(o.out.set ((w64 ((o.out.length:Int) - 1)).toNat) ({ At:=x243.At,Val:=r238 }:Sum)) }:Push_merger)) (appP 24 o.out ([s]) fun _=>Q ({ heads:=H,r:=o.r,out:=(o.out++([s])) }:Push_merger))) b:=by
    intro b hb
    refine ⟨fun h=>?_,fun h=>?_⟩
    · have hc:=hb.1 h
      have e:w64 ((o.out.length:Int) - 1)=((o.out.length - 1:Nat):Int):=by rw [w64_id (by omega) (by omega)]; omega
      have hg:o.out[((o.out.length - 1:Nat):Int).toNat]? = some (la o.out):=by
        simp only [Int.toNat_natCast,la,List.getD_eq_getElem?_getD,show o.out.length - 1<o.out.length by omega,List.getElem?_eq_getElem,Option.getD_some]
      rw [e]
      refine idxP_intro (by omega) hg (ring_Add_ok (ho _ (List.mem_of_getElem? hg)) hs (idxP_intro (by omega) hg ?_))
      rw [outS,if_pos hc] at hQ'
      simpa only [Int.toNat_natCast] using hQ'
    · have hc:¬(0<o.out.length∧(la o.out).At=s.At):=fun h'=>by rw [hb.2 h'] at h; cases h
      refine appP_intro (by simp; omega) ?_
      rw [outS,if_neg hc] at hQ'
      exact hQ'
  refine join_intro (fun b:Bool=>b=true↔(0<o.out.length∧(la o.out).At=s.At)) (fun b hb=>key b hb) fun k' hk'=>?_
  refine ifP_dec (fun h=>?_) (fun h=>?_)
  · have e:w64 ((o.out.length:Int) - 1)=((o.out.length - 1:Nat):Int):=by rw [w64_id (by omega) (by omega)]; omega
    have hg:o.out[((o.out.length - 1:Nat):Int).toNat]? = some (la o.out):=by
      simp only [Int.toNat_natCast,la,List.getD_eq_getElem?_getD,show o.out.length - 1<o.out.length by omega,List.getElem?_eq_getElem,Option.getD_some]
    rw [e]
    exact idxP_intro (by omega) hg (hk' _ (by simp; omega))
  · exact hk' _ (by simp; omega)
theorem rises_ok {l:List Sum} {Q:Bool→Prop} (hl:l.length≤1000000000) (hQ:Q (decide (Rise l))):push_rises l Q:=by
  unfold push_rises
  refine scan_intro l.length (by omega) (fun n=>∀ (i:Nat) (hi:i+1<l.length),i+1<n→l[i].At<l[i+1].At) (fun i hi h=>by omega) (fun i next hi hR hn=>?_) (fun next hR=>?_)
  · refine ifP_dec (fun _=>ifP_dec (fun h=>?_) (fun h=>?_)) (fun h=>by omega)
    · have e:w64 ((i:Int) - 1)=((i - 1:Nat):Int):=by rw [w64_id (by omega) (by omega)]; omega
      rw [e]
      refine idxP_nat (by omega) (idxP_nat hi (ifP_dec (fun h'=>?_) (fun h'=>hn fun j hj hjn=>?_)))
      · have:¬Rise l:=fun hr=>by have:=hr.adj hi (i:=i - 1) (by omega); omega
        rw [decide_eq_false this] at hQ; exact hQ
      · by_cases e':j+1=i
        · subst e'; simp only [Nat.add_sub_cancel] at h'; omega
        · exact hR j hj (by omega)
    · exact hn fun j hj hjn=>by omega
  · refine ifP_dec (fun h=>by omega) (fun _=>?_)
    rw [decide_eq_true (rise_adj fun i hi=>hR i hi (by omega))] at hQ; exact hQ
theorem falls_ok {L:List (List Sum)} {Q:Bool→Prop} (hl:L.length≤1000000000) (hs:∀ l∈L,l.length≤1000000000) (hQ:Q (decide (∃ l∈L,¬Rise l))):slices_ContainsFunc_api_Sum_api_Sum_bfd L Q:=by
  unfold slices_ContainsFunc_api_Sum_api_Sum_bfd slices_IndexFunc_api_Sum_api_Sum_acf
  refine scan_intro L.length (by omega) (fun n=>∀ i (hi:i<L.length),i<n→Rise L[i]) (fun i hi h=>by omega) (fun i next hi hR hn=>?_) (fun next hR=>?_)
  · refine ifP_dec (fun _=>idxP_nat hi ?_) (fun h=>by omega)
    unfold push_Merge_1_d96
    refine rises_ok (hs _ (List.getElem_mem hi)) (ifP_not (fun h=>?_) (fun h=>?_))
    · have hn':=of_decide_eq_false h
      rw [decide_eq_true ⟨_,List.getElem_mem hi,hn'⟩] at hQ
      simpa using hQ
    · refine hn fun j hj hjn=>?_
      by_cases e:j=i
      · subst e; exact of_decide_eq_true h
      · exact hR j hj (by omega)
  · refine ifP_dec (fun h=>by omega) (fun _=>?_)
    have:¬ ∃ l∈L,¬Rise l:=by
      rintro ⟨l,hl',hn⟩
      obtain ⟨i,hi,rfl⟩:=List.mem_iff_getElem.1 hl'
      exact hn (hR i hi hi)
    rw [decide_eq_false this] at hQ
    simpa using hQ
def tot (H:List Push_head):Nat:=(H.map fun h=>h.l.length).sum
theorem tot_perm {H H':List Push_head} (h:H.Perm H'):tot H=tot H':=(h.map _).sum_nat
theorem tot_hs (R:Nat→List Sum):∀ n,tot (headsR R n)=sumR R n
  | 0=>rfl
  | n+1=>by
    rw [headsR,sumR]
    split
    · rename_i e; rw [tot_hs R n,e]; simp
    · have:=tot_hs R n; unfold tot at *; simp only [List.map_cons,List.sum_cons,this]; omega
theorem hs_full (R:Nat→List Sum) (n:Nat):full (headsR R n):=by
  intro h hh
  obtain ⟨w,_,h1,rfl⟩:=hs_mem.1 hh
  exact h1
theorem heap_nil:Heap [] 0:=fun j _ h=>by omega
theorem takes_ok {r:Int} {n:Nat} {R0:Nat→List Sum} {H0:List Push_head} {Q:List Sum×Int→Prop} {out:List Sum} (hr:1≤r∧r≤5) (hn:n≤1000000000) (hN:sumR R0 n≤1000000000)
    (hp0:H0.Perm (headsR R0 n)) (hH0:Heap H0 H0.length) (hR0:∀ w,w<n→Rise (R0 w)∧okS (R0 w)) (ho1:Rise out) (ho3:∀ i,lk out i=foldR r R0 i n none) (hQ:Q (out,0)) :
    loopP (fun (s:(List Push_head)×Int×(List Sum)) (next421:((List Push_head)×Int×(List Sum))→Prop)=>match s with | (s412,s416,s417)=>push_heads_Len s412 fun r427=>ifP (decide (0<r427)) (push_merger_next_d58 ({ heads:=s412,r:=s416,out:=s417 }:Push_merger) fun r438=>next421 (r438.heads,r438.r,r438.out)) (Q (s417,0))) (H0,r,[]):=by
  refine loop_intro (fun s:List Push_head×Int×List Sum=>∃ R,s.1.Perm (headsR R n)∧Heap s.1 s.1.length∧s.2.1=r∧Rise s.2.2∧okS s.2.2∧s.2.2.length+sumR R n≤1000000000∧(∀ w,w<n→Rise (R w)∧okS (R w)∧∀ x∈R w,∀ o∈s.2.2,o.At≤x.At)∧∀ i,foldR r R i n (lk s.2.2 i)=foldR r R0 i n none) (fun s=>tot s.1)
    ⟨R0,hp0,hH0,rfl,by simp [Rise],by simp [okS],by simpa using hN,fun w hw=>⟨(hR0 w hw).1,(hR0 w hw).2,by simp⟩,fun i=>rfl⟩ ?_
  rintro ⟨H,r',o⟩ next ⟨R,hp,hH,e,h1,h2,h3,h4,h5⟩ hnx
  simp only at hp hH e h1 h2 h3 h4 h5 ⊢
  subst e
  unfold push_heads_Len
  refine ifP_dec (fun hpos=>?_) (fun hz=>?_)
  · have hne:H≠[]:=by intro e; subst e; simp at hpos
    have hlen:0<H.length:=List.length_pos_iff.2 hne
    have hHl:H.length≤n:=hp.length_eq▸hs_len R n
    obtain ⟨w,hw,hRw,hx⟩:=hs_mem.1 (hp.mem_iff.1 (gH_mem hlen))
    obtain ⟨s,t,est⟩:=List.exists_cons_of_ne_nil hRw
    have hf:full H:=full_perm (hs_full R n) hp
    obtain ⟨q1,q2,q3⟩:=h4 w hw
    have hsok:okW s.Val:=q2 s (by rw [est]; simp)
    -- the least one
    have hmin:∀ k,k<n→∀ x∈R k,s.At≤x.At∧(k<w→s.At<x.At):=by
      intro k hk x hxk
      have hne':R k≠[]:=by intro e; rw [e] at hxk; simp at hxk
      have hmem:(⟨R k,k⟩:Push_head)∈H:=hp.mem_iff.2 (hs_mem.2 ⟨k,hk,hne',rfl⟩)
      obtain ⟨j,hj,ej⟩:=List.mem_iff_getElem.1 hmem
      have hroot:=heap_root hH j hj
      obtain ⟨y,z,eyz⟩:=List.exists_cons_of_ne_nil hne'
      have k1:hKey H j=(y.At,(k:Int)):=by
        have:gH H j=⟨R k,k⟩:=by have:=gH_get hj; rw [List.getElem?_eq_getElem hj,ej] at this; exact (Option.some.inj this).symm
        simp [hKey,hkey,this,eyz]
      have k0:hKey H 0=(s.At,(w:Int)):=by simp [hKey,hkey,hx,est]
      rw [k1,k0] at hroot
      have hyx:y.At≤x.At:=by
        have hrk:=(h4 k hk).1
        rw [eyz] at hxk hrk
        unfold Rise at hrk; rw [List.pairwise_cons] at hrk
        rcases List.mem_cons.1 hxk with e | hxz
        · subst e; omega
        · have:=hrk.1 x hxz; omega
      unfold ltK at hroot
      simp only at hroot
      refine ⟨by omega,fun hkw=>by omega⟩
    have hRt:Rise t∧∀ x∈t,s.At<x.At:=by rw [est] at q1; unfold Rise at q1; rw [List.pairwise_cons] at q1; exact ⟨q1.2,q1.1⟩
    have hole:∀ x∈o,x.At≤s.At:=fun x hxo=>q3 s (by rw [est]; simp) x hxo
    refine next_ok (o:=⟨H,r',o⟩) (s:=s) (t:=t) (by simp only; omega) hf hH hne (by simp only; omega) h2 hsok (by simp only; rw [hx]; exact est) fun H2 H' hp1 hp2 hH2=>?_
    simp only at hp1 hp2
    have hwh:(gH H 0).which=(w:Int):=by rw [hx]
    rw [hwh,hx] at *
    have hH':H'.Perm (headsR (upd R w []) n):=by
      have h6:(headsR R n).Perm (⟨R w,w⟩ :: headsR (upd R w []) n):=by
        have:=hs_upd (R:=R) (w:=w) (l:=R w) hw
        rwa [upd_same,if_neg hRw] at this
      exact List.Perm.cons_inv (hp1.trans (hp.trans h6))
    have hH2':H2.Perm (headsR (upd R w t) n):=by
      refine hp2.trans (List.Perm.trans ?_ (hs_upd (R:=R) (l:=t) hw).symm)
      split
      · exact hH'
      · exact hH'.cons _
    obtain ⟨p1,p2,p3,p4,p5⟩:=outS_prop (r:=r') h1 h2 hsok hole
    have hsum:=sumR_upd est hw
    refine hnx _ ⟨upd R w t,hH2',hH2,rfl,p1,p2,by simp only; omega,fun k hk=>?_,fun i=>?_⟩ ?_
    · unfold upd
      split
      · exact ⟨hRt.1,fun x hx=>q2 x (by rw [est]; simp [hx]),fun x hx y hy=>by have:=hRt.2 x hx; have:=p4 y hy; omega⟩
      · exact ⟨(h4 k hk).1,(h4 k hk).2.1,fun x hx y hy=>by have:=(hmin k hk x hx).1; have:=p4 y hy; omega⟩
    · simp only
      rw [p5,←h5]
      split
      · rename_i ei; subst ei
        refine foldR_step (fun k hk=>lk_none fun x hx=>?_) (by rw [est,lk_cons,if_pos rfl]) (lk_none fun x hx=>?_) hw
        · have:=(hmin k (by omega) x hx).2 hk; omega
        · have:=hRt.2 x hx; omega
      · rename_i ei
        refine foldR_congr fun k hk=>?_
        unfold upd
        split
        · rename_i e; subst e; rw [est,lk_cons,if_neg ei]
        · rfl
    · show tot H2<tot H
      rw [tot_perm hH2',tot_perm hp,tot_hs,tot_hs]; omega
  · have hH0':H=[]:=by
      cases H with
      | nil=>rfl
      | cons a b=>simp at hz
    subst hH0'
    have hno:∀ w,w<n→R w=[]:=by
      intro w hw
      by_cases e:R w=[]
      · exact e
      · have:=hp.mem_iff.2 (hs_mem.2 ⟨w,hw,e,rfl⟩); simp at this
    have:o=out:=rise_ext h1 ho1 fun i=>by
      rw [ho3,←h5,foldR_none]
      intro w hw; rw [hno w hw]; rfl
    subst this
    exact hQ
theorem total_sumR (L:List (List Sum)):∀ n,n≤L.length→sumR (fun w=>L.getD w []) n=total (L.take n):=by
  intro n
  induction n with
  | zero=>intro _; simp [sumR,total]
  | succ n ih=>
    intro hn
    rw [sumR,ih (by omega),List.take_succ_eq_append_getElem (by omega)]
    have:∀ (a:List (List Sum)) (b:List Sum),total (a++[b])=total a+b.length:=by
      intro a b; unfold total
      induction a with
      | nil=>simp
      | cons x a ih=>simp only [List.cons_append,List.map_cons,List.foldr_cons,ih]; omega
    rw [this]
    simp [List.getD_eq_getElem?_getD,show n<L.length by omega]
def mergeP (r:Int) (L:List (List Sum)):List Sum×Int:=if ¬(1≤r∧r≤5) then ([],8) else if ∃ l∈L,¬Rise l then ([],6) else (mergeS r L,0)
theorem push_merge_ok {r:Int} {L:List (List Sum)} {Q:List Sum×Int→Prop} (hL:L.length≤1000000) (hs':∀ l∈L,l.length≤1000000000) (hT:total L≤1000000000) (hok:∀ l∈L,okS l) (hQ:Q (mergeP r L)):push_Merge r L Q:=by
  unfold push_Merge
  unfold mergeP at hQ
  refine ring_Is_ok (ifP_not (fun h=>?_) (fun h=>?_))
  · rw [if_pos (of_decide_eq_false h)] at hQ; exact hQ
  · have hr:=of_decide_eq_true h
    rw [if_neg (by omega)] at hQ
    refine falls_ok (by omega) hs' ⟨fun h=>?_,fun h=>?_⟩
    · rw [if_pos (of_decide_eq_true h)] at hQ; exact hQ
    · have hrise:∀ l∈L,Rise l:=by
        have:=of_decide_eq_false h
        intro l hl
        by_cases e:Rise l
        · exact e
        · exact absurd ⟨l,hl,e⟩ this
      rw [if_neg (of_decide_eq_false h)] at hQ
      refine range_intro (s0:=(([]:List Push_head),r,([]:List Sum))) (fun (s:List Push_head×Int×List Sum) i=>(s.1,s.2.1,s.2.2,i)) 0 L.length (by omega) (fun i s=>s.1.Perm (headsR (fun w=>L.getD w []) i)∧Heap s.1 s.1.length∧s.2.1=r∧s.2.2=[]) (by omega) ⟨.refl _,heap_nil,rfl,rfl⟩ (fun i s next _ hi hm hn=>?_) (fun s next hm=>?_)
      · obtain ⟨H,r',o⟩:=s
        obtain ⟨h1,h2,h3,h4⟩:=hm
        simp only at h1 h2 h3 h4 ⊢
        subst h3; subst h4
        refine ifP_dec (fun _=>?_) (fun h=>by omega)
        have hlH:H.length≤i:=h1.length_eq▸hs_len _ i
        refine idxP_nat hi (put_ok (o:=⟨H,r',[]⟩) (by simp only; omega) (full_perm (hs_full _ i) h1) h2 fun H2 hp hH2=>?_)
        refine hn (H2,r',[]) ⟨hp.trans ?_,hH2,rfl,rfl⟩
        have e:L.getD i []=L[i]:=by simp [List.getD_eq_getElem?_getD,hi]
        simp only [headsR,e]
        split
        · exact h1
        · exact h1.cons _
      · obtain ⟨H,r',o⟩:=s
        obtain ⟨h1,h2,h3,h4⟩:=hm
        simp only at h1 h2 h3 h4 ⊢
        subst h3; subst h4
        refine ifP_dec (fun h=>by omega) (fun _=>?_)
        have hmp:=merge_prop r' L hrise L.length (by omega)
        rw [List.take_length] at hmp
        refine takes_ok (out:=mergeS r' L) (R0:=fun w=>L.getD w []) hr (n:=L.length) (by omega) (by rw [total_sumR L _ (by omega),List.take_length]; exact hT) h1 h2 (fun w hw=>?_) hmp.1 hmp.2.2.2 hQ
        have e:L.getD w []=L[w]:=by simp [List.getD_eq_getElem?_getD,hw]
        simp only [e]
        exact ⟨hrise _ (List.getElem_mem _),hok _ (List.getElem_mem _)⟩
def ofZ (z:Int):Wide:=⟨w64 (z / 18446744073709551616),z % 18446744073709551616⟩
theorem ofZ_okW (z:Int):okW (ofZ z):=by unfold okW ofZ; simp only [w64_eq]; omega
theorem ofZ_add (x y:Int):addW 5 (ofZ x) (ofZ y)=ofZ (x+y):=by
  have e:addW 5 (ofZ x) (ofZ y)=⟨w64 ((ofZ x).Hi+(ofZ y).Hi+(if 18446744073709551616≤(ofZ x).Lo+(ofZ y).Lo then 1 else 0)),((ofZ x).Lo+(ofZ y).Lo) % 18446744073709551616⟩:=rfl
  rw [e]
  unfold ofZ
  apply wide_eta
  · simp only [w64_eq]; split <;> omega
  · simp only; omega
theorem ofI_ofZ {v:Int} (h:inI v):ofI v=ofZ v:=by
  unfold ofI ofZ inI at *
  apply wide_eta
  · simp only [w64_eq]; split <;> omega
  · rfl
theorem ofZ_nat {hi lo:Int} (h0:0≤lo) (h1:lo<18446744073709551616):(⟨w64 hi,lo⟩:Wide)=ofZ (hi*18446744073709551616+lo):=by
  unfold ofZ
  apply wide_eta
  · simp only [w64_eq]; omega
  · simp only; omega
theorem shr_u {x:Int} (k:Nat) (hk:k≤64):shr .u64 x k=x / 2 ^ k:=by
  unfold shr
  rw [Int.fdiv_eq_ediv_of_nonneg _ (Int.le_of_lt (Int.pow_pos (by omega)))]
  have:min (Int.toNat (k:Int)) (IntKind.bits .u64)=k:=by simp [IntKind.bits]; omega
  rw [this]
theorem shl_u {x:Int} (k:Nat) (hk:k≤64):shl .u64 x k=(x*2 ^ k) % 18446744073709551616:=by
  unfold shl
  rw [u64_eq]
  have:min (Int.toNat (k:Int)) (IntKind.bits .u64)=k:=by simp [IntKind.bits]; omega
  rw [this]
theorem ofInt_nat (x:Int) (h0:0≤x) (h1:x<18446744073709551616):(BitVec.ofInt 64 x).toNat=x.toNat:=by
  rw [BitVec.toNat_ofInt]
  congr 1
  exact Int.emod_eq_of_lt h0 (by simpa using h1)
theorem bor_nat {x y:Int} (hx0:0≤x) (hx1:x<18446744073709551616) (hy0:0≤y) (hy1:y<18446744073709551616):bor .u64 x y=((x.toNat ||| y.toNat:Nat):Int):=by
  unfold bor
  have e:(BitVec.ofInt (IntKind.bits .u64) x ||| BitVec.ofInt (IntKind.bits .u64) y).toNat=x.toNat ||| y.toNat:=by
    show (BitVec.ofInt 64 x ||| BitVec.ofInt 64 y).toNat=_
    rw [BitVec.toNat_or,ofInt_nat x hx0 hx1,ofInt_nat y hy0 hy1]
  rw [e,u64_eq]
  have:x.toNat ||| y.toNat<2 ^ 64:=Nat.or_lt_two_pow (by omega) (by omega)
  omega
theorem bnd_nat {x y:Int} (hx0:0≤x) (hx1:x<18446744073709551616) (hy0:0≤y) (hy1:y<18446744073709551616):bnd .u64 x y=((x.toNat &&& y.toNat:Nat):Int):=by
  unfold bnd
  have e:(BitVec.ofInt (IntKind.bits .u64) x &&& BitVec.ofInt (IntKind.bits .u64) y).toNat=x.toNat &&& y.toNat:=by
    show (BitVec.ofInt 64 x &&& BitVec.ofInt 64 y).toNat=_
    rw [BitVec.toNat_and,ofInt_nat x hx0 hx1,ofInt_nat y hy0 hy1]
  rw [e,u64_eq]
  have:x.toNat &&& y.toNat<2 ^ 64:=Nat.and_lt_two_pow _ (by omega)
  omega
theorem bor_halves {h l:Int} (hh0:0≤h) (hh1:h<4294967296) (hl0:0≤l) (hl1:l<4294967296):bor .u64 (h*4294967296) l=h*4294967296+l:=by
  rw [bor_nat (by omega) (by omega) hl0 (by omega)]
  have e:(h*4294967296).toNat=h.toNat <<< 32:=by rw [Nat.shiftLeft_eq]; omega
  rw [e,←Nat.shiftLeft_add_eq_or_of_lt (by omega),Nat.shiftLeft_eq]
  omega
theorem halves_ok {x:Int} {Q:Int×Int→Prop} (h0:0≤x) (h1:x<18446744073709551616) (hQ:Q (x % 4294967296,x / 4294967296)):wide_halves x Q:=by
  unfold wide_halves
  have e1:shl .u64 x 32=(x*4294967296) % 18446744073709551616:=shl_u 32 (by omega)
  have e2:∀ y,shr .u64 y 32=y / 4294967296:=fun y=>shr_u 32 (by omega)
  rw [e1,e2,e2]
  rwa [show x*4294967296 % 18446744073709551616 / 4294967296=x % 4294967296 by omega]
theorem product_ok {a b:Int} {Q:Wide→Prop} (ha0:0≤a) (ha1:a<18446744073709551616) (hb0:0≤b) (hb1:b<18446744073709551616) (hQ:Q (ofZ (a*b))):wide_product a b Q:=by
  unfold wide_product
  have hlt:∀ x y:Int,0≤x→x<4294967296→0≤y→y<4294967296→0≤x*y∧x*y≤18446744065119617025:=by
    intro x y h1 h2 h3 h4
    refine ⟨Int.mul_nonneg h1 h3,?_⟩
    have:=Int.mul_le_mul (show x≤4294967295 by omega) (show y≤4294967295 by omega) h3 (by omega)
    omega
  refine halves_ok ha0 ha1 (halves_ok hb0 hb1 ?_)
  simp only
  obtain ⟨x0,hx0⟩:∃ x0,x0=a % 4294967296:=⟨_,rfl⟩
  obtain ⟨x1,hx1⟩:∃ x1,x1=a / 4294967296:=⟨_,rfl⟩
  obtain ⟨y0,hy0⟩:∃ y0,y0=b % 4294967296:=⟨_,rfl⟩
  obtain ⟨y1,hy1⟩:∃ y1,y1=b / 4294967296:=⟨_,rfl⟩
  rw [←hx0,←hx1,←hy0,←hy1]
  have hab:a*b=x1*y1*18446744073709551616+(x1*y0+x0*y1)*4294967296+x0*y0:=by
    have e1:a=x1*4294967296+x0:=by omega
    have e2:b=y1*4294967296+y0:=by omega
    rw [e1,e2,Int.add_mul,Int.mul_add,Int.mul_add]
    have q1:x1*4294967296*(y1*4294967296)=x1*y1*18446744073709551616:=by rw [Int.mul_assoc,Int.mul_left_comm 4294967296 y1,←Int.mul_assoc x1]; rfl
    have q2:x1*4294967296*y0=x1*y0*4294967296:=Int.mul_right_comm _ _ _
    have q3:x0*(y1*4294967296)=x0*y1*4294967296:=(Int.mul_assoc _ _ _).symm
    rw [q1,q2,q3]; omega
  obtain ⟨b00,c00⟩:=hlt x0 y0 (by omega) (by omega) (by omega) (by omega)
  obtain ⟨b01,c01⟩:=hlt x0 y1 (by omega) (by omega) (by omega) (by omega)
  obtain ⟨b10,c10⟩:=hlt x1 y0 (by omega) (by omega) (by omega) (by omega)
  obtain ⟨b11,c11⟩:=hlt x1 y1 (by omega) (by omega) (by omega) (by omega)
  generalize x0*y0=p00 at *
  generalize x0*y1=p01 at *
  generalize x1*y0=p10 at *
  generalize x1*y1=p11 at *
  simp only [u64_eq]
  refine halves_ok (by omega) (by omega) ?_
  simp only
  refine halves_ok (by omega) (by omega) ?_
  simp only
  refine halves_ok (by omega) (by omega) (halves_ok (by omega) (by omega) ?_)
  simp only
  have e3:∀ y,shl .u64 y 32=(y*4294967296) % 18446744073709551616:=fun y=>shl_u 32 (by omega)
  rw [e3]
  have e4:∀ y:Int,(y % 4294967296*4294967296) % 18446744073709551616=y % 4294967296*4294967296:=fun y=>by omega
  rw [e4,bor_halves (by omega) (by omega) (by omega) (by omega),ofZ_nat (by omega) (by omega)]
  rw [hab] at hQ
  have hfin:ofZ (((((p11 % 18446744073709551616+(p10 % 18446744073709551616+p00 % 18446744073709551616 / 4294967296) % 18446744073709551616 / 4294967296) % 18446744073709551616+(p01 % 18446744073709551616+(p10 % 18446744073709551616+p00 % 18446744073709551616 / 4294967296) % 18446744073709551616 % 4294967296) % 18446744073709551616 / 4294967296) % 18446744073709551616)*18446744073709551616+((p01 % 18446744073709551616+(p10 % 18446744073709551616+p00 % 18446744073709551616 / 4294967296) % 18446744073709551616 % 4294967296) % 18446744073709551616 % 4294967296*4294967296+p00 % 18446744073709551616 % 4294967296)))=ofZ (p11*18446744073709551616+(p10+p01)*4294967296+p00):=by
    unfold ofZ
    apply wide_eta
    · simp only [w64_eq]; omega
    · simp only; omega
  rw [hfin]; exact hQ
theorem okW_toZ {a:Wide} (h:okW a):a=ofZ (a.Hi*18446744073709551616+a.Lo):=by
  unfold okW at h
  rw [←ofZ_nat (by omega) (by omega)]
  apply wide_eta
  · simp only [w64_eq]; omega
  · rfl
theorem sub_ok {x:Int} {Q:Wide→Prop} (hQ:Q (ofZ (-x))):wide_Sub ⟨0,0⟩ (ofZ x) Q:=by
  unfold wide_Sub wide_carry
  have key:∀ c:Int,(c=if 0<(ofZ x).Lo then 1 else 0)→(⟨w64 ((((0 % 18446744073709551616) - ((ofZ x).Hi % 18446744073709551616)) % 18446744073709551616 - c) % 18446744073709551616),(0 - (ofZ x).Lo) % 18446744073709551616⟩:Wide)=ofZ (-x):=by
    intro c hc
    unfold ofZ at *
    subst hc
    apply wide_eta
    · simp only [w64_eq]; split <;> omega
    · simp only; omega
  simp only [u64_eq]
  refine ifP_dec (fun h=>?_) (fun h=>?_)
  · rw [key 1 (by rw [if_pos h])]; exact hQ
  · rw [key 0 (by rw [if_neg h])]; exact hQ
theorem wide_Mul_ok {a b:Int} {Q:Wide→Prop} (ha:inI a) (hb:inI b) (hQ:Q (ofZ (a*b))):wide_Mul a b Q:=by
  unfold wide_Mul
  unfold inI at ha hb
  have hs:∀ {x:Int} {K:Int→Prop},-9223372036854775808≤x∧x≤9223372036854775807→K (if x<0 then -x else x)→wide_size x K:=by
    intro x K hx hK
    unfold wide_size
    simp only [u64_eq]
    refine ifP_dec (fun h=>?_) (fun h=>?_)
    · rw [if_pos h] at hK; rwa [show (0 - x % 18446744073709551616) % 18446744073709551616 = -x by omega]
    · rw [if_neg h] at hK; rwa [show x % 18446744073709551616=x by omega]
  refine hs ha (hs hb ?_)
  have m1 : -a*b = -(a*b):=Int.neg_mul _ _
  have m2:a * -b = -(a*b):=Int.mul_neg _ _
  have m3 : -a * -b=a*b:=Int.neg_mul_neg _ _
  refine product_ok (by split <;> omega) (by split <;> omega) (by split <;> omega) (by split <;> omega) ?_
  by_cases h1:a<0 <;> by_cases h2:b<0
  · rw [if_pos h1,if_pos h2,m3]
    exact ifP_neg (by simp [h1,h2]) hQ
  · rw [if_pos h1,if_neg h2,m1]
    exact ifP_pos (by simp [h1,h2]) (sub_ok (by rwa [Int.neg_neg]))
  · rw [if_neg h1,if_pos h2,m2]
    exact ifP_pos (by simp [h1,h2]) (sub_ok (by rwa [Int.neg_neg]))
  · rw [if_neg h1,if_neg h2]
    exact ifP_neg (by simp [h1,h2]) hQ
def mulW (r a x:Int):Wide:=
  if r=2 then (if a≠0∧x≠0 then ⟨0,1⟩ else ⟨0,0⟩)
  else if r=5 then ofZ (a*x)
  else if r=1∨r=3∨r=4 then
    (if 4611686018427387904≤a∨4611686018427387904≤x then ofZ 4611686018427387904
     else if r=3 then ofZ a else if r=4 then ofZ x else if leW (ofZ 4611686018427387904) (ofZ (a+x)) then ofZ 4611686018427387904 else ofZ (a+x))
  else ⟨0,0⟩
theorem mulW_okW (r a x:Int):okW (mulW r a x):=by
  have h0:okW ⟨0,0⟩:=by unfold okW; simp
  have h1:okW ⟨0,1⟩:=by unfold okW; simp
  unfold mulW
  repeat' split
  all_goals first | exact ofZ_okW _ | exact h0 | exact h1
theorem leW_ofZ {x y:Int} (hx : -170141183460469231731687303715884105728≤x∧x<170141183460469231731687303715884105728) (hy : -170141183460469231731687303715884105728≤y∧y<170141183460469231731687303715884105728):leW (ofZ x) (ofZ y)↔x≤y:=by
  have h:∀ z:Int,-170141183460469231731687303715884105728≤z∧z<170141183460469231731687303715884105728→w64 (z / 18446744073709551616)=z / 18446744073709551616:=by
    intro z hz; rw [w64_eq]; omega
  unfold leW ofZ
  simp only [h x hx,h y hy]
  omega
theorem ring_Mul_ok {r a x:Int} {Q:Wide→Prop} (ha:inI a) (hx:inI x) (hQ:Q (mulW r a x)):ring_Mul r a x Q:=by
  unfold ring_Mul
  unfold mulW at hQ
  have ia:inI 4611686018427387904:=by unfold inI; omega
  refine ifP_eq (fun h=>?_) (fun h=>ifP_eq (fun h5=>?_) (fun h5=>?_))
  · rw [if_pos h] at hQ
    refine ifP_ne (fun h1=>truth_ok ?_) (fun h1=>truth_ok ?_)
    · simpa [h1] using hQ
    · simpa [h1] using hQ
  · rw [if_neg h,if_pos h5] at hQ
    exact wide_Mul_ok ha hx hQ
  · rw [if_neg h,if_neg h5] at hQ
    have emax:(if x > a then x else a)≥4611686018427387904↔4611686018427387904≤a∨4611686018427387904≤x:=by split <;> omega
    refine join_intro (fun _=>¬((1≤r∧r≤5)∧(4611686018427387904≤a∨4611686018427387904≤x))) ?_ ?_
    · rintro _ hno
      refine join_intro (fun p:Int×Int=>(⟨p.1,p.2⟩:Wide)=ofZ (if r=1 then a else 0)∧(r=1∨r=4)) ?_ ?_
      · rintro ⟨p1,p2⟩ ⟨hp,hr⟩
        simp only at hp ⊢
        refine wide_Of_ok ia (wide_Of_ok hx ?_)
        rw [hp,ofI_ofZ ia,ofI_ofZ hx]
        refine wide_Add_ok (ofZ_okW _) (ofZ_okW _) (lesser_ok ?_)
        rw [ofZ_add]
        rw [if_pos (by omega),if_neg (by omega),if_neg (by omega)] at hQ
        rcases hr with hr | hr
        · rw [if_pos hr]; rwa [if_neg (by omega)] at hQ
        · rw [if_neg (show ¬r=1 by omega),show (0:Int)+x=x by omega]
          rw [if_pos hr] at hQ
          unfold inI at hx
          rwa [if_neg (by rw [leW_ofZ (by omega) (by omega)]; omega)]
      · intro k hk
        refine ifP_eq (fun h1=>wide_Of_ok ha (hk _ ⟨?_,.inl h1⟩)) (fun h1=>ifP_eq (fun h4=>hk _ ⟨?_,.inr h4⟩) (fun h4=>ifP_eq (fun h3=>wide_Of_ok ha ?_) (fun h3=>?_)))
        · rw [if_pos h1]; exact ofI_ofZ ha
        · rw [if_neg h1]; decide
        · rw [if_pos (by omega),if_neg (by omega),if_pos h3] at hQ
          rw [ofI_ofZ ha]; exact hQ
        · rw [if_neg (by omega)] at hQ; exact hQ
    · intro k hk
      refine ring_Is_ok ⟨fun h1=>ifP_dec (fun h2=>wide_Of_ok ia ?_) (fun h2=>hk _ ?_),fun h1=>hk _ ?_⟩
      · have h1:=of_decide_eq_true h1
        rw [if_pos (by omega),if_pos (emax.1 h2)] at hQ
        rw [ofI_ofZ ia]; exact hQ
      · exact fun h'=>h2 (emax.2 h'.2)
      · exact fun h'=>of_decide_eq_false h1 h'.1
def okF (f:List Int):Prop:=∀ x∈f,0≤x∧x<18446744073709551616
def hasF (f:List Int) (i:Int):Bool:=decide (0≤i) && (at0 f (i / 64)).toNat.testBit (i % 64).toNat
theorem at0_over {f:List Int} {i:Int} (h:(f.length:Int)≤i):at0 f i=0:=by
  unfold at0
  rw [List.getD_eq_getElem?_getD,List.getElem?_eq_none (by omega)]; rfl
theorem okF_at {f:List Int} (h:okF f) (i:Int):0≤at0 f i∧at0 f i<18446744073709551616:=by
  by_cases e:i.toNat<f.length
  · have:at0 f i=f[i.toNat]:=by simp [at0,List.getD_eq_getElem?_getD,e]
    rw [this]; exact h _ (List.getElem_mem e)
  · have:at0 f i=0:=by unfold at0; rw [List.getD_eq_getElem?_getD,List.getElem?_eq_none (by omega)]; rfl
    rw [this]; omega
theorem hasF_over {f:List Int} {i:Int} (h:64*(f.length:Int)≤i):hasF f i=false:=by
  unfold hasF; rw [at0_over (by omega)]; simp
theorem hasF_neg {f:List Int} {i:Int} (h:i<0):hasF f i=false:=by
  unfold hasF; simp [show ¬0≤i by omega]
theorem shr6 (i:Int):shr .i64 i 6=i / 64:=by
  unfold shr
  rw [Int.fdiv_eq_ediv_of_nonneg _ (by decide)]; rfl
theorem within_f_ok {f:List Int} {i:Int} {Q:Bool→Prop} (hQ:Q (decide (0≤i∧i / 64<f.length))):flags_within f i Q:=by
  unfold flags_within
  rw [shr6]
  refine ifP_dec (fun h=>?_) (fun h=>?_)
  · simpa [h] using hQ
  · simpa [h] using hQ
theorem pw_int (k:Nat):(2:Int) ^ k=((2 ^ k:Nat):Int):=by rw [Int.natCast_pow]; rfl
theorem pw_lt {k:Nat} (hk:k<64):(2:Nat) ^ k<18446744073709551616:=Nat.pow_lt_pow_right (n:=64) (a:=2) (by omega) hk
theorem one_shl {k:Nat} (hk:k<64):shl .u64 1 k=((2 ^ k:Nat):Int):=by
  rw [shl_u _ (by omega),Int.one_mul,pw_int]
  have hp:=pw_lt hk
  generalize 2 ^ k=p at *
  omega
theorem and_pw (x k:Nat):x &&& 2 ^ k=if x.testBit k then 2 ^ k else 0:=by
  apply Nat.eq_of_testBit_eq
  intro j
  rw [Nat.testBit_and,Nat.testBit_two_pow]
  by_cases e:k=j
  · subst e
    cases h:x.testBit k
    · simp
    · simp [Nat.testBit_two_pow]
  · cases h:x.testBit k
    · simp [e]
    · simp [e,Nat.testBit_two_pow]
theorem bit_ok {i:Int} {Q:Int→Prop} (h0:0≤i) (h1:i<18446744073709551616) (hQ:Q ((2 ^ (i % 64).toNat:Nat):Int)):flags_bit i Q:=by
  unfold flags_bit
  have e:bnd .u64 (IntKind.wrap .u64 i) 63=(((i % 64).toNat:Nat):Int):=by
    rw [u64_eq,show i % 18446744073709551616=i by omega,bnd_nat h0 h1 (by omega) (by omega)]
    congr 1
    rw [show Int.toNat 63=2 ^ 6 - 1 from rfl,Nat.and_two_pow_sub_one_eq_mod]
    omega
  rw [e]
  refine ⟨by omega,?_⟩
  rw [one_shl (by omega)]; exact hQ
theorem flags_Has_ok {f:List Int} {i:Int} {Q:Bool→Prop} (hf:okF f) (hi:inI i) (hQ:Q (hasF f i)):flags_Has f i Q:=by
  unfold flags_Has
  unfold inI at hi
  refine within_f_ok ⟨fun h=>?_,fun h=>?_⟩
  · have h:=of_decide_eq_true h
    rw [shr6]
    have hx:=okF_at hf (i / 64)
    refine idxP_at0 (by omega) h.2 (bit_ok h.1 (by omega) ?_)
    have hp:=pw_lt (k:=(i % 64).toNat) (by omega)
    have e:hasF f i=(at0 f (i / 64)).toNat.testBit (i % 64).toNat:=by unfold hasF; simp [h.1]
    rw [e] at hQ
    have hpos:0<(2:Nat) ^ (i % 64).toNat:=Nat.pow_pos (by omega)
    have ha:=and_pw (at0 f (i / 64)).toNat (i % 64).toNat
    generalize (i % 64).toNat=k at *
    rw [bnd_nat hx.1 hx.2 (Int.natCast_nonneg _) (by generalize 2 ^ k=p at *; omega),Int.toNat_natCast,ha]
    cases hb:(at0 f (i / 64)).toNat.testBit k with
    | false=>rw [hb] at hQ; simpa using hQ
    | true=>
      rw [hb] at hQ
      have e2:(((if (true:Bool)=true then 2 ^ k else 0:Nat):Int) != 0)=true:=by
        rw [if_pos rfl,bne_iff_ne]
        generalize 2 ^ k=p at *; omega
      rw [e2]; exact hQ
  · have h:=of_decide_eq_false h
    have e:hasF f i=false:=by
      rcases Int.lt_or_le i 0 with h' | h'
      · exact hasF_neg h'
      · exact hasF_over (by omega)
    rw [e] at hQ; exact hQ
end Go.Proofs.YtpackolbhcmomaaGreat
