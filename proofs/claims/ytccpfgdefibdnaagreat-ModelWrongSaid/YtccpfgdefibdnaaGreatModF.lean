import Derived.Test.YtccpfgdefibdnaaGreatOK
import Derived.Test.YtccpfgdefibdnaaGreatModA
namespace Go.Proofs.YtccpfgdefibdnaaGreat
open Go Go.Fw
set_option linter.unusedVariables false
set_option linter.unusedSimpArgs false
theorem sumsR_P {r rows cols:Int} {T:List Triple} {v:Vec} {f:List Int} {o:Bool} (h:rows≤4096):(sumsR r rows cols T v f o).1.length≤4096∧okS (sumsR r rows cols T v f o).1:=by
  unfold sumsR
  repeat' split
  · exact ⟨by simp,by simp [okS]⟩
  · exact ⟨by simp,by simp [okS]⟩
  · have hp:=sumsS_prop r cols.toNat f o (fun i=>lkI (rowI T i)) (lkI v.Items) rows.toNat
    exact ⟨by have:=hp.2.1; simp only; omega,hp.2.2.1⟩
theorem pull_Times_ok {r rows cols:Int} {T:List Triple} {v:Vec} {f:List Int} {o:Bool} {Q:Vec×Int→Prop} (h:Canon rows cols T) (hT:∀ t∈T,inI t.Val) (hv:VecP v) (hvv:∀ y∈v.Items,inI y.Val)
    (hf:okF f) (hQ:Q (if (sumsR r rows cols T v f o).2≠0 then (zV,(sumsR r rows cols T v f o).2) else doneS r rows (sumsR r rows cols T v f o).1)):pull_Times r (builtS rows cols T) (denS v) f o Q:=by
  unfold pull_Times
  have hp:=sumsR_P (r:=r) (cols:=cols) (T:=T) (v:=v) (f:=f) (o:=o) h.r1
  refine pull_Sums_ok h hT hv hvv hf (ifP_ne (fun hne=>?_) (fun he=>?_))
  · rw [if_pos hne] at hQ; exact hQ
  · rw [if_neg (fun h=>h he)] at hQ
    exact pull_sure_ok h hv (pull_Done_ok (by omega) hp.2 hQ)
theorem ref13_TimesR_ok {r rows cols:Int} {T:List Triple} {v:Vec} {f:List Int} {o:Bool} {Q:Vec×Int→Prop} (h:Canon rows cols T) (hT:∀ t∈T,inI t.Val) (hv:VecP v) (hvv:∀ y∈v.Items,inI y.Val)
    (hf:okF f) (hQ:Q (if (sumsR r rows cols T v f o).2≠0 then (zV,(sumsR r rows cols T v f o).2) else doneS r rows (sumsR r rows cols T v f o).1)):ref13_Times r (builtS rows cols T) (denS v) f o Q:=by
  unfold ref13_Times
  have hp:=sumsR_P (r:=r) (cols:=cols) (T:=T) (v:=v) (f:=f) (o:=o) h.r1
  refine ref13_Sums_ok h.sml (sure_built h) h hT hv hvv hf (ifP_ne (fun hne=>?_) (fun he=>?_))
  · rw [if_pos hne] at hQ; exact hQ
  · rw [if_neg (fun h=>h he)] at hQ
    refine ref_sure_ok h.sml ?_
    rw [sure_built h]
    exact ref13_Done_ok (by omega) hp.2 hQ
theorem ref_Asked_ok {p:Plan} {s:State} {round:Int} {Q:List Int×Bool→Prop} (ho:okSt s) (hQ:Q (askS p (sureSt p s))):ref21_Asked p s round Q:=by
  unfold ref21_Asked
  refine ref_Sure_ok ho ?_
  have h:=sureSt_Q (p:=p) ho
  unfold askS at hQ
  generalize sureSt p s=u at h hQ ⊢
  have hs:=h.siz
  have hal:=h.al
  have hend (want:Int) (hq:Q (ofF (sizN u) (onsN (sizN u) fun i=>at0 u.A i==want),false)):ref03_Of (sizN u:Int) (onsN (sizN u) fun i=>at0 u.A i==want) fun r448=>Q (r448,false):=by
    have hol:=onsN_len (sizN u) fun i=>at0 u.A i==want
    exact ref03_Of_ok (by omega) (fun x hx=>by have:=onsN_in hx; unfold inI; omega) hq
  unfold joinP
  by_cases h1:p.Kind=1
  · rw [if_pos h1] at hQ
    refine ifP_neg (by simp [h1]) ?_
    rw [h.w,hal]
    refine range_intro (fun (s:List Int) i=>(s,i)) 0 (sizN u) (by omega) (fun i s=>s=onsN i fun i=>at0 u.A i == -1) (by omega) rfl (fun i s next _ hi hm hnx=>?_) (fun s next hm=>?_)
    · subst hm
      have hol:=onsN_len i fun i=>at0 u.A i == -1
      have hons:=onsN_succ i fun i=>at0 u.A i == -1
      refine ifP_dec (fun _=>ifP_pos (by simp [h1]) (idxP_at0 (by omega) (by omega) ?_)) (fun h=>by omega)
      refine ifP_eq (fun ha=>appP_intro (by simp; omega) (hnx _ ?_)) (fun ha=>ifP_neg (by simp [h1]) (hnx _ ?_))
      · rw [hons,if_pos (by simpa using ha)]
      · rw [hons,if_neg (by simpa using ha)]
    · subst hm
      exact ifP_dec (fun h=>by omega) (fun _=>hend _ hQ)
  · rw [if_neg h1] at hQ
    refine ifP_pos (by simpa using h1) ?_
    by_cases h5:p.Kind=5
    · rw [if_pos h5] at hQ
      refine ifP_neg (by simp [h5]) ?_
      rw [h.w,hal]
      refine range_intro (fun (s:List Int) i=>(s,i)) 0 (sizN u) (by omega) (fun i s=>s=onsN i fun i=>at0 u.A i==0) (by omega) rfl (fun i s next _ hi hm hnx=>?_) (fun s next hm=>?_)
      · subst hm
        have hol:=onsN_len i fun i=>at0 u.A i==0
        have hons:=onsN_succ i fun i=>at0 u.A i==0
        refine ifP_dec (fun _=>ifP_neg (by simpa using h1) (ifP_pos (by simp [h5]) (idxP_at0 (by omega) (by omega) ?_))) (fun h=>by omega)
        refine ifP_eq (fun ha=>appP_intro (by simp; omega) (hnx _ ?_)) (fun ha=>hnx _ ?_)
        · rw [hons,if_pos (by simpa using ha)]
        · rw [hons,if_neg (by simpa using ha)]
      · subst hm
        exact ifP_dec (fun h=>by omega) (fun _=>hend _ hQ)
    · rw [if_neg h5] at hQ
      exact ifP_pos (by simpa using h5) hQ
theorem ask_okF (p:Plan) (s:State):okF (askS p s).1:=by
  unfold askS
  repeat' split
  · exact (ofF_prop _ _).1
  · exact (ofF_prop _ _).1
  · simp [okF]
theorem at0_inI {l:List Int} (h:∀ x∈l,inI x) (i:Nat):inI (at0 l i):=by
  by_cases hl:i<l.length
  · have:at0 l i=l[i]:=by unfold at0; simp [hl]
    rw [this]; exact h _ (List.getElem_mem hl)
  · rw [at0_over (by omega)]; unfold inI; omega
theorem Whole.out {p:Plan} {s:State} (h:Whole p s) (round:Int):VecP (outVS p s round)∧(∀ y∈(outVS p s round).Items,inI y.Val)∧(outVS p s round).N=p.N:=by
  have hz:=rightPl_zero h.st.1
  have e:((sizN s:Nat):Int)=s.High - s.Low:=by unfold sizN; have:=h.lo; have:=h.hi; omega
  have hlo:=h.lo; have hhi:=h.hi
  unfold outVS
  rw [h.sure]
  refine ⟨?_,fun y hy=>?_,by simp only; omega⟩
  · have:=out_vecP (n:=sizN s) (by omega) (tellsS p s round)
    rw [e] at this; exact this
  · obtain ⟨i,hi,he⟩:=List.mem_filterMap.1 (show y∈outI _ _ from hy)
    have hi:=List.mem_range.1 hi
    split at he
    · cases he
      have ha:=at0_inI h.va i
      show inI (tellsS p s round i).1
      unfold tellsS
      repeat' split
      · unfold inI; simp only; omega
      · unfold inI; simp only; omega
      · have hd:0≤dnum p round (s.Low+i)∧dnum p round (s.Low+i)≤17592186044416:=by
          unfold dnum numS
          split
          · have:=dv_in hz.2.2.2.2.2 ((round - 1) / 2*p.N+(s.Low+i)); omega
          · omega
        unfold inI; simp only; omega
      · exact ha
    · cases he
theorem Whole.ask {p:Plan} {s:State} {round:Int} {Q:List Int×Bool→Prop} (h:Whole p s) (hQ:Q (askS p s)):prog_Asked p s round Q:=prog_Asked_ok h.ok (by rw [h.sure]; exact hQ)
theorem Whole.rask {p:Plan} {s:State} {round:Int} {Q:List Int×Bool→Prop} (h:Whole p s) (hQ:Q (askS p s)):ref21_Asked p s round Q:=ref_Asked_ok h.ok (by rw [h.sure]; exact hQ)
theorem whole_ok {p:Plan} {s:State} {Q:Bool→Prop} (h:Whole p s) (hQ:Q true):model_whole p s Q:=by
  unfold model_whole
  have ho:=h.out 1
  have hz:=rightPl_zero h.st.1
  have e:sizN s=p.N.toNat:=by unfold sizN; have:=h.lo; have:=h.hi; omega
  have hal:=h.st.2.2.2.2.1; have hbl:=h.st.2.2.2.2.2.1; have hr:=h.st.2.2.2.2.2.2
  rw [h.hi,h.lo,Int.sub_zero] at hr
  refine ifP_pos (by simp [h.lo]) (ifP_pos (by simp [h.hi]) (prog_Out_ok h.ok (by omega) (ifP_pos (by simpa using ho.2.2) (ifP_pos ?_ (ifP_pos ?_ (flags_Right_ok h.ok.1 h.ok.2 ?_))))))
  · simp only [beq_iff_eq]; omega
  · simp only [beq_iff_eq]; omega
  · rw [decide_eq_true hr]; exact hQ
theorem model_Step_ok {p:Plan} {T:List Triple} {s:State} {round:Int} {Q:State×Int→Prop} (hp:rightPl p=0) (h:Canon p.N p.N T) (hT:∀ t∈T,inI t.Val) (hs:Whole p s) (hr:0≤round∧round≤1000000) (hQ:Q (stepS p T s round)):model_Step p (builtS p.N p.N T) s round Q:=by
  unfold model_Step
  have ho:=hs.out round
  refine prog_Right_ok (ifP_neg (by simp [hp]) ?_)
  refine join_intro (fun t=>(⟨t.1,t.2.1,t.2.2.1,t.2.2.2.1,t.2.2.2.2⟩:Rows)=builtS p.N p.N T) ?_ ?_
  · rintro ⟨t1,t2,t3,t4,t5⟩ ht
    simp only at ht ⊢
    have e1:t1=p.N:=congrArg Rows.Rows ht
    have e2:t2=p.N:=congrArg Rows.Cols ht
    rw [ht]
    refine ifP_neg (by simp [e1]) (ifP_neg (by simp [e2]) (whole_ok hs (ifP_neg rfl (hs.ask (prog_Ring_ok (prog_Out_ok hs.ok hr (devec_Of_ok (by have:=ho.1.len; omega) ?_)))))))
    rw [sureV_id ho.1]
    refine pull_Times_ok h hT ho.1 ho.2.1 (ask_okF p s) ?_
    unfold stepS at hQ
    change Q (if (stepY p T s round).2≠0 then _ else _) at hQ
    have hyl:(stepY p T s round).1.Items.length≤1000000:=by
      unfold stepY
      have hsp:=sumsR_P (r:=ringPl p.Kind round) (cols:=p.N) (T:=T) (v:=outVS p s round) (f:=(askS p s).1) (o:=(askS p s).2) h.r1
      split
      · simp [zV]
      · unfold doneS
        repeat' split
        · simp [zV]
        · simp [zV]
        · simp [zV]
        · simp [zV]
        · have:=List.length_filterMap_le (nzI (ringPl p.Kind round)) (stepX p T s round).1
          unfold stepX at this ⊢
          simp only; omega
    show ifP ((stepY p T s round).2 != 0) _ _
    refine ifP_ne (fun hne=>?_) (fun he=>?_)
    · rw [if_pos hne] at hQ; exact hQ
    · rw [if_neg (fun h=>h he)] at hQ
      exact prog_Update_ok hs.ok hr hyl hQ
  · intro k hk
    refine right_ok h.sml ?_
    rw [decide_eq_true h.right]
    exact ifP_neg rfl (hk _ rfl)
theorem ref22_Step_ok {p:Plan} {T:List Triple} {s:State} {round:Int} {Q:State×Int→Prop} (hp:rightPl p=0) (h:Canon p.N p.N T) (hT:∀ t∈T,inI t.Val) (hs:Whole p s) (hr:0≤round∧round≤1000000) (hQ:Q (stepS p T s round)):ref22_Step p (builtS p.N p.N T) s round Q:=by
  unfold ref22_Step
  have ho:=hs.out round
  refine ref_Right_ok (ifP_neg (by simp [hp]) (ref_sure_ok h.sml ?_))
  rw [sure_built h]
  refine ref_Sure_ok hs.ok ?_
  rw [hs.sure]
  refine ifP_neg (by simp [builtS]) (ifP_neg (by simp [builtS]) (ref_Same_ok (lenSt_of hs.st hs.ok) (ifP_neg (by simp) (ifP_neg (by simp [hs.lo]) (ifP_neg (by simp [hs.hi]) (hs.rask (ref_Ring_ok (ref_Out_ok hs.ok hr (ref10_Of_ok (by have:=ho.1.len; omega) ?_)))))))))
  rw [sureV_id ho.1]
  refine ref13_TimesR_ok h hT ho.1 ho.2.1 (ask_okF p s) ?_
  unfold stepS at hQ
  change Q (if (stepY p T s round).2≠0 then _ else _) at hQ
  have hyl:(stepY p T s round).1.Items.length≤1000000:=by
    unfold stepY
    have hsp:=sumsR_P (r:=ringPl p.Kind round) (cols:=p.N) (T:=T) (v:=outVS p s round) (f:=(askS p s).1) (o:=(askS p s).2) h.r1
    split
    · simp [zV]
    · unfold doneS
      repeat' split
      · simp [zV]
      · simp [zV]
      · simp [zV]
      · simp [zV]
      · have:=List.length_filterMap_le (nzI (ringPl p.Kind round)) (stepX p T s round).1
        unfold stepX at this ⊢
        simp only; omega
  show ifP ((stepY p T s round).2 != 0) _ _
  refine ifP_ne (fun hne=>?_) (fun he=>?_)
  · rw [if_pos hne] at hQ; exact hQ
  · rw [if_neg (fun h=>h he)] at hQ
    exact ref_Update_ok hs.ok hr hyl hQ
theorem mat_T {p:Plan} {g:Graph} (h:(matS p g).2=0):rightPl p=0∧g.N=p.N∧rightG g=0∧∃ T,Canon p.N p.N T∧(∀ t∈T,inI t.Val)∧matS p g=(builtS p.N p.N T,0):=by
  unfold matS at h ⊢
  by_cases h1:rightPl p≠0
  · rw [if_pos h1] at h; exact absurd h h1
  rw [if_neg h1] at h ⊢
  by_cases h2:g.N≠p.N
  · rw [if_pos h2] at h; cases h
  rw [if_neg h2] at h ⊢
  by_cases h3:rightG g≠0
  · rw [if_pos h3] at h; exact absurd h h3
  rw [if_neg h3] at h ⊢
  have h1:=Decidable.of_not_not h1; have h2:=Decidable.of_not_not h2; have h3:=Decidable.of_not_not h3
  refine ⟨h1,h2,h3,?_⟩
  have hN:(if p.Kind=5 then plainG (bothG (simpG g)) else if p.Kind=3 then plainG (bothG g) else if p.Kind=1 then plainG g else g).N=p.N:=by
    repeat' split
    all_goals exact h2
  generalize (if p.Kind=5 then plainG (bothG (simpG g)) else if p.Kind=3 then plainG (bothG g) else if p.Kind=1 then plainG g else g)=G at h hN ⊢
  unfold graphS at h ⊢
  by_cases hG:rightG G=0
  · rw [if_pos hG]
    have hc:=graph_canon hG
    rw [hN] at hc ⊢
    refine ⟨_,hc,fun t ht=>?_,rfl⟩
    unfold graphT finS at ht
    split at ht
    · obtain ⟨p,_,rfl⟩:=List.mem_map.1 ht
      exact nar_inI p.2
    · cases ht
  · rw [if_neg hG] at h; exact absurd h hG
def checkS (p:Plan) (g:Graph) (limit:Int):Int:=if (matS p g).2≠0 then (matS p g).2 else if limit<0∨8192<limit then 3 else 0
theorem model_Check_ok {p:Plan} {g:Graph} {limit:Int} {Q:Int→Prop} (hQ:Q (checkS p g limit)):model_Check p g limit Q:=by
  unfold model_Check
  unfold checkS at hQ
  refine prog_Matrix_ok (ifP_ne (fun h=>by rwa [if_pos h] at hQ) (fun h=>?_))
  rw [if_neg (fun h'=>h' h)] at hQ
  exact ifP_dec (fun h1=>by rwa [if_pos (.inl h1)] at hQ) (fun h1=>ifP_dec (fun h2=>by rwa [if_pos (.inr h2)] at hQ) (fun h2=>by rwa [if_neg (by omega)] at hQ))
theorem ref22_Check_ok {p:Plan} {g:Graph} {limit:Int} {Q:Int→Prop} (hQ:Q (checkS p g limit)):ref22_Check p g limit Q:=by
  unfold ref22_Check
  unfold checkS at hQ
  refine ref_Matrix_ok (ifP_ne (fun h=>by rwa [if_pos h] at hQ) (fun h=>?_))
  rw [if_neg (fun h'=>h' h)] at hQ
  exact ifP_dec (fun h1=>by rwa [if_pos (.inl h1)] at hQ) (fun h1=>ifP_dec (fun h2=>by rwa [if_pos (.inr h2)] at hQ) (fun h2=>by rwa [if_neg (by omega)] at hQ))
theorem check_T {p:Plan} {g:Graph} {limit:Int} (h:checkS p g limit=0):rightPl p=0∧g.N=p.N∧rightG g=0∧(0≤limit∧limit≤8192)∧∃ T,Canon p.N p.N T∧(∀ t∈T,inI t.Val)∧matS p g=(builtS p.N p.N T,0):=by
  unfold checkS at h
  by_cases h1:(matS p g).2≠0
  · rw [if_pos h1] at h; exact absurd h h1
  rw [if_neg h1] at h
  have hm:=mat_T (Decidable.of_not_not h1)
  refine ⟨hm.1,hm.2.1,hm.2.2.1,?_,hm.2.2.2⟩
  split at h
  · cases h
  · omega
theorem ends_loop {S:Type} {p:Plan} {T:List Triple} {limit:Int} {n:Nat} {st:Int} (hp:rightPl p=0) (hl:0≤limit∧limit≤8192) (E:Ends p T limit n st) {body:S→(S→Prop)→Prop} {enc:Nat→S}
    (hgo:∀ k next,k<n→Whole p (seqS p T k)→liveS p (seqS p T k) k≠0→(k:Int)≠limit→stepS p T (seqS p T k) ((k:Int)+1)=(seqS p T (k+1),0)→next (enc (k+1))→body (enc k) next)
    (hend:∀ next,Whole p (seqS p T n)→stopS p T limit n=st→body (enc n) next):loopP body (enc 0):=by
  refine range_intro (fun (s:Unit) i=>enc i.toNat) 0 n (by have:=E.le; omega) (fun _ _=>True) (by omega) (s0:=()) trivial (fun i s next _ hi _ hn=>?_) (fun s next _=>?_)
  · have hg:=stop_go (E.lt i hi)
    have hw:=seq_whole hp hl (k:=i) fun j hj=>E.lt j (by omega)
    have hn:=hn () trivial
    have e:(w64 ((i:Int)+1)).toNat=i+1:=by rw [w64_id (by omega) (by have:=E.le; omega)]; omega
    simp only [e] at hn
    simp only [Int.toNat_natCast]
    refine hgo i next hi hw hg.1 hg.2.1 ?_ hn
    have:(stepS p T (seqS p T i) ((i:Int)+1)).1=seqS p T (i+1):=rfl
    rw [←this,←hg.2.2]
  · simp only [Int.toNat_natCast]
    exact hend next (seq_whole hp hl (k:=n) fun j hj=>E.lt j hj) E.at_
def lastS (p:Plan) (T:List Triple) (n:Nat) (st:Int):Result:=⟨st,n,seqS p T n⟩
def listS (p:Plan) (T:List Triple) (n:Nat):List State:=(List.range (n+1)).map (seqS p T)
theorem listS_len (p:Plan) (T:List Triple) (n:Nat):(listS p T n).length=n+1:=by simp [listS]
theorem listS_at {p:Plan} {T:List Triple} {n k:Nat} (h:k<(listS p T n).length):(listS p T n)[k]=seqS p T k:=by simp [listS]
theorem listS_succ (p:Plan) (T:List Triple) (n:Nat):listS p T (n+1)=listS p T n++[seqS p T (n+1)]:=by
  unfold listS; rw [List.range_succ,List.map_append]; rfl
theorem stop_is {p:Plan} {T:List Triple} {limit:Int} {k:Nat} {st:Int} (hs:st≠0) (h:stopS p T limit k=st):(liveS p (seqS p T k) k=0∧st=1)∨(liveS p (seqS p T k) k≠0∧(k:Int)=limit∧st=2)∨(liveS p (seqS p T k) k≠0∧(k:Int)≠limit∧(stepS p T (seqS p T k) ((k:Int)+1)).2≠0∧st=3):=by
  unfold stopS at h
  split at h
  · rename_i h1; exact .inl ⟨h1,h.symm⟩
  · split at h
    · rename_i h1 h2; exact .inr (.inl ⟨h1,h2,h.symm⟩)
    · split at h
      · rename_i h1 h2 h3; exact .inr (.inr ⟨h1,h2,h3,h.symm⟩)
      · exact absurd h.symm hs
structure MRun (p:Plan) (g:Graph) (limit:Int) (T:List Triple) (n:Nat) (st:Int):Prop where
  rp:rightPl p=0
  cn:Canon p.N p.N T
  vs:∀ t∈T,inI t.Val
  mt:matS p g=(builtS p.N p.N T,0)
  lm:0≤limit∧limit≤8192
  en:Ends p T limit n st
theorem MRun.check {p:Plan} {g:Graph} {limit:Int} {T:List Triple} {n:Nat} {st:Int} (R:MRun p g limit T n st):checkS p g limit=0:=by
  unfold checkS
  rw [R.mt,if_neg (by simp),if_neg (by have:=R.lm; omega)]
theorem runs_ex {p:Plan} {g:Graph} {limit:Int} (h:checkS p g limit=0):∃ T n st,MRun p g limit T n st:=by
  obtain ⟨hp,hn,hg,hl,T,hc,hT,hm⟩:=check_T h
  obtain ⟨n,st,E⟩:=ends_ex p T hl.1
  exact ⟨T,n,st,hp,hc,hT,hm,hl,E⟩
theorem model_Run_bad {p:Plan} {g:Graph} {limit:Int} {Q:Result×Int→Prop} (h:checkS p g limit≠0) (hQ:Q (⟨0,0,zSt⟩,checkS p g limit)):model_Run p g limit Q:=by
  unfold model_Run
  exact model_Check_ok (ifP_pos (by simpa using h) hQ)
theorem ref22_Run_bad {p:Plan} {g:Graph} {limit:Int} {Q:Result×Int→Prop} (h:checkS p g limit≠0) (hQ:Q (⟨0,0,zSt⟩,checkS p g limit)):ref22_Run p g limit Q:=by
  unfold ref22_Run
  exact ref22_Check_ok (ifP_pos (by simpa using h) hQ)
theorem model_Run_ok {p:Plan} {g:Graph} {limit:Int} {T:List Triple} {n:Nat} {st:Int} {Q:Result×Int→Prop} (R:MRun p g limit T n st) (hQ:Q (lastS p T n st,0)):model_Run p g limit Q:=by
  unfold model_Run
  refine model_Check_ok (ifP_neg (by simp [R.check]) ?_)
  obtain ⟨hp,hc,hT,hm,hl,E⟩:=R
  unfold model_states_18b model_states_1_e9c
  refine prog_Matrix_ok ?_
  rw [hm]
  refine prog_Begin_ok ?_
  show loopP _ ((0:Int),(-1:Int),(0:Int),(0:Int),([]:List Int),([]:List Int),([]:List Int),(seqS p T 0).Low,(seqS p T 0).High,(seqS p T 0).A,(seqS p T 0).B,(seqS p T 0).On,(0:Int),(0:Nat))
  let prev:Nat→State:=fun k=>match k with | 0=>zSt | k+1=>seqS p T k
  refine ends_loop (S:=Int×Int×Int×Int×List Int×List Int×List Int×Int×Int×List Int×List Int×List Int×Int×Nat) hp hl E (enc:=fun k=>(0,(k:Int) - 1,(prev k).Low,(prev k).High,(prev k).A,(prev k).B,(prev k).On,(seqS p T k).Low,(seqS p T k).High,(seqS p T k).A,(seqS p T k).B,(seqS p T k).On,(k:Int),0)) (fun k next hk hw hv hl' hst hn=>?_) (fun next hw hst=>?_)
  · have hkl:(k:Int)≤8192:=by have:=E.le; omega
    have ew:w64 ((k:Int) - 1+1)=k:=by rw [w64_id (by omega) (by omega)]; omega
    have ew2:w64 ((k:Int)+1)=(k+1:Nat):=by rw [w64_id (by omega) (by omega)]; omega
    dsimp only
    refine ⟨rfl,ifP_pos rfl (prog_Live_ok hw.ok (ifP_neg (by simpa using hv) (ifP_neg (by simpa using hl') ?_)))⟩
    rw [ew2]
    refine model_Step_ok hp hc hT hw (by omega) ?_
    have:((k+1:Nat):Int)=(k:Int)+1:=by omega
    rw [this,hst]
    refine ifP_neg rfl ?_
    have hn':=hn
    simp only [this] at hn'
    rw [ew]
    simpa [prev] using hn'
  · have hkl:(n:Int)≤8192:=by have:=E.le; omega
    have ew:w64 ((n:Int) - 1+1)=n:=by rw [w64_id (by omega) (by omega)]; omega
    have ew2:w64 ((n:Int)+1)=(n:Int)+1:=w64_id (by omega) (by omega)
    dsimp only
    rw [ew,ew2]
    refine ⟨rfl,ifP_pos rfl (prog_Live_ok hw.ok ?_)⟩
    rcases stop_is E.ne hst with ⟨h1,rfl⟩ | ⟨h1,h2,rfl⟩ | ⟨h1,h2,h3,rfl⟩
    · exact ifP_pos (by simpa using h1) ⟨rfl,hQ⟩
    · exact ifP_neg (by simpa using h1) (ifP_pos (by simpa using h2) ⟨rfl,hQ⟩)
    · exact ifP_neg (by simpa using h1) (ifP_neg (by simpa using h2) (model_Step_ok hp hc hT hw (by omega) (ifP_pos (by simpa using h3) ⟨rfl,hQ⟩)))
theorem model_Trace_ok {p:Plan} {g:Graph} {limit:Int} {T:List Triple} {n:Nat} {st:Int} {Q:List State×Int→Prop} (R:MRun p g limit T n st) (hQ:Q (listS p T n,0)):model_Trace p g limit Q:=by
  unfold model_Trace
  refine model_Check_ok (ifP_neg (by simp [R.check]) ?_)
  obtain ⟨hp,hc,hT,hm,hl,E⟩:=R
  unfold model_states_5ef slices_Collect_api_State_f8c slices_AppendSeq_api_State_api_State_f00 model_states_1_589
  refine prog_Matrix_ok ?_
  rw [hm]
  refine prog_Begin_ok ?_
  show loopP _ (([]:List State),(seqS p T 0).Low,(seqS p T 0).High,(seqS p T 0).A,(seqS p T 0).B,(seqS p T 0).On,(0:Int),(0:Nat))
  refine ends_loop (S:=List State×Int×Int×List Int×List Int×List Int×Int×Nat) hp hl E (enc:=fun k=>((List.range k).map (seqS p T),(seqS p T k).Low,(seqS p T k).High,(seqS p T k).A,(seqS p T k).B,(seqS p T k).On,(k:Int),0)) (fun k next hk hw hv hl' hst hn=>?_) (fun next hw hst=>?_)
  · have hkl:(k:Int)≤8192:=by have:=E.le; omega
    have ew2:w64 ((k:Int)+1)=(k+1:Nat):=by rw [w64_id (by omega) (by omega)]; omega
    dsimp only
    refine ⟨rfl,appP_intro (by simp; omega) (ifP_pos rfl (prog_Live_ok hw.ok (ifP_neg (by simpa using hv) (ifP_neg (by simpa using hl') ?_))))⟩
    rw [ew2]
    refine model_Step_ok hp hc hT hw (by omega) ?_
    have:((k+1:Nat):Int)=(k:Int)+1:=by omega
    rw [this,hst]
    refine ifP_neg rfl ?_
    have hn':=hn
    rw [List.range_succ,List.map_append,this] at hn'
    exact hn'
  · have hkl:(n:Int)≤8192:=by have:=E.le; omega
    have ew2:w64 ((n:Int)+1)=(n:Int)+1:=w64_id (by omega) (by omega)
    have el:(List.range n).map (seqS p T)++[seqS p T n]=listS p T n:=by unfold listS; rw [List.range_succ,List.map_append]; rfl
    dsimp only
    rw [ew2]
    refine ⟨rfl,appP_intro (by simp; omega) (ifP_pos rfl (prog_Live_ok hw.ok ?_))⟩
    show ifP (liveS p (seqS p T n) n==0) _ _
    simp only [show ({ Low:=(seqS p T n).Low,High:=(seqS p T n).High,A:=(seqS p T n).A,B:=(seqS p T n).B,On:=(seqS p T n).On }:State)=seqS p T n from rfl,el]
    rcases stop_is E.ne hst with ⟨h1,rfl⟩ | ⟨h1,h2,rfl⟩ | ⟨h1,h2,h3,rfl⟩
    · exact ifP_pos (by simpa using h1) ⟨rfl,hQ⟩
    · exact ifP_neg (by simpa using h1) (ifP_pos (by simpa using h2) ⟨rfl,hQ⟩)
    · exact ifP_neg (by simpa using h1) (ifP_neg (by simpa using h2) (model_Step_ok hp hc hT hw (by omega) (ifP_pos (by simpa using h3) ⟨rfl,hQ⟩)))
theorem ref22_all_ok {p:Plan} {g:Graph} {limit:Int} {T:List Triple} {n:Nat} {st:Int} {Q:List State×Int→Prop} (hp:rightPl p=0) (hc:Canon p.N p.N T) (hT:∀ t∈T,inI t.Val) (hm:matS p g=(builtS p.N p.N T,0)) (hl:0≤limit∧limit≤8192) (E:Ends p T limit n st)
    (hQ:Q (listS p T n,st)):ref22_all p g limit Q:=by
  unfold ref22_all
  refine ref_Matrix_ok ?_
  rw [hm]
  refine ref_Begin_ok ?_
  show loopP _ ((seqS p T 0).Low,(seqS p T 0).High,(seqS p T 0).A,(seqS p T 0).B,(seqS p T 0).On,([seqS p T 0]:List State),(0:Int))
  refine ends_loop (S:=Int×Int×List Int×List Int×List Int×List State×Int) hp hl E (enc:=fun k=>((seqS p T k).Low,(seqS p T k).High,(seqS p T k).A,(seqS p T k).B,(seqS p T k).On,listS p T k,(k:Int))) (fun k next hk hw hv hl' hst hn=>?_) (fun next hw hst=>?_)
  · have hkl:(k:Int)≤8192:=by have:=E.le; omega
    have ew2:w64 ((k:Int)+1)=(k+1:Nat):=by rw [w64_id (by omega) (by omega)]; omega
    dsimp only
    refine ref_Live_ok hw.ok (ifP_neg (by simpa using hv) (ifP_neg (by simpa using hl') ?_))
    rw [ew2]
    refine ref22_Step_ok hp hc hT hw (by omega) ?_
    have:((k+1:Nat):Int)=(k:Int)+1:=by omega
    rw [this,hst]
    refine ifP_neg rfl (appP_intro (by rw [listS_len]; simp; omega) ?_)
    have hn':=hn
    rw [listS_succ,this] at hn'
    exact hn'
  · have hkl:(n:Int)≤8192:=by have:=E.le; omega
    have ew2:w64 ((n:Int)+1)=(n:Int)+1:=w64_id (by omega) (by omega)
    dsimp only
    rw [ew2]
    refine ref_Live_ok hw.ok ?_
    rcases stop_is E.ne hst with ⟨h1,rfl⟩ | ⟨h1,h2,rfl⟩ | ⟨h1,h2,h3,rfl⟩
    · exact ifP_pos (by simpa using h1) hQ
    · exact ifP_neg (by simpa using h1) (ifP_pos (by simpa using h2) hQ)
    · exact ifP_neg (by simpa using h1) (ifP_neg (by simpa using h2) (ref22_Step_ok hp hc hT hw (by omega) (ifP_pos (by simpa using h3) hQ)))
theorem ref22_Run_ok {p:Plan} {g:Graph} {limit:Int} {T:List Triple} {n:Nat} {st:Int} {Q:Result×Int→Prop} (R:MRun p g limit T n st) (hQ:Q (lastS p T n st,0)):ref22_Run p g limit Q:=by
  unfold ref22_Run
  refine ref22_Check_ok (ifP_neg (by simp [R.check]) ?_)
  obtain ⟨hp,hc,hT,hm,hl,E⟩:=R
  refine ref22_all_ok hp hc hT hm hl E ?_
  have hle:=E.le
  have e1:w64 (((listS p T n).length:Int) - 1)=n:=by rw [listS_len,w64_id (by omega) (by omega)]; omega
  simp only
  rw [e1]
  refine idxP_nat (by rw [listS_len]; omega) ?_
  rw [listS_at]
  exact hQ
theorem MRun.whole {p:Plan} {g:Graph} {limit:Int} {T:List Triple} {n:Nat} {st:Int} (R:MRun p g limit T n st) {k:Nat} (h:k≤n):Whole p (seqS p T k):=seq_whole R.rp R.lm fun j hj=>R.en.lt j (by omega)
theorem MRun.lens {p:Plan} {g:Graph} {limit:Int} {T:List Triple} {n:Nat} {st:Int} (R:MRun p g limit T n st) {k:Nat} (h:k≤n):lenSt (seqS p T k):=lenSt_of (R.whole h).st (R.whole h).ok
theorem ref22_Same_ok {a b:Result} {Q:Bool→Prop} (hl:lenSt a.State) (hQ:Q (decide (a=b))):ref22_Same a b Q:=by
  unfold ref22_Same
  have hno:a≠b→Q false:=fun h=>by rwa [decide_eq_false h] at hQ
  refine ifP_eq (fun h1=>ifP_eq (fun h2=>ref_Same_ok hl ?_) (fun h2=>hno fun h=>h2 (by rw [h]))) (fun h1=>hno fun h=>h1 (by rw [h]))
  by_cases h3:a.State=b.State
  · have:a=b:=by cases a; cases b; simp only at h1 h2 h3; subst h1 h2 h3; rfl
    rw [decide_eq_true this] at hQ
    rw [decide_eq_true h3]; exact hQ
  · rw [decide_eq_false h3]; exact hno fun h=>h3 (by rw [h])
theorem model_Same_ok {a b:Result} {Q:Bool→Prop} (hl:lenSt a.State) (hQ:Q (decide (a=b))):model_Same a b Q:=by
  unfold model_Same
  have hno:a≠b→Q false:=fun h=>by rwa [decide_eq_false h] at hQ
  refine ifP_eq (fun h1=>ifP_eq (fun h2=>prog_Same_ok hl ?_) (fun h2=>hno fun h=>h2 (by rw [h]))) (fun h1=>hno fun h=>h1 (by rw [h]))
  by_cases h3:a.State=b.State
  · have:a=b:=by cases a; cases b; simp only at h1 h2 h3; subst h1 h2 h3; rfl
    rw [decide_eq_true this] at hQ
    rw [decide_eq_true h3]; exact hQ
  · rw [decide_eq_false h3]; exact hno fun h=>h3 (by rw [h])
theorem zSt_len:lenSt zSt:=by unfold lenSt zSt; decide
def PL:Plan:=⟨1,3,0,0,[]⟩
def GL:Graph:=⟨3,[⟨0,1,1⟩,⟨1,2,1⟩]⟩
def TL:List Triple:=[⟨1,0,1⟩,⟨2,1,1⟩]
def SL0:State:=⟨0,3,[0,-1,-1],[-1,-1,-1],[1]⟩
def SL1:State:=⟨0,3,[0,1,-1],[-1,0,-1],[2]⟩
def SL2:State:=⟨0,3,[0,1,2],[-1,0,1],[4]⟩
def SL3:State:=⟨0,3,[0,1,2],[-1,0,1],[0]⟩
theorem PL_right:rightPl PL=0:=by decide
theorem TL_canon:Canon 3 3 TL:=⟨by decide,by decide,by decide,by decide,by decide,by unfold Srt; decide,by decide⟩
theorem TL_vals:∀ t∈TL,inI t.Val:=by unfold inI; decide
theorem PL_mat:matS PL GL=(builtS 3 3 TL,0):=by decide
theorem seqL0:seqS PL TL 0=SL0:=by show beginS PL 0 3=SL0; decide
theorem step_of {p:Plan} {T:List Triple} {s s':State} {round:Int} {x y:Vec} {l:List Sum} (ho:outVS p s round=x) (hx:sumsR (ringPl p.Kind round) p.N p.N T x (askS p s).1 (askS p s).2=(l,0)) (hy:doneS (ringPl p.Kind round) p.N l=(y,0)) (hu:updS p s round y=s'):stepS p T s round=(s',0):=by
  have e1:stepX p T s round=(l,0):=by unfold stepX; rw [ho]; exact hx
  have e2:stepY p T s round=(y,0):=by unfold stepY; rw [e1,if_neg (by simp)]; exact hy
  unfold stepS
  rw [e2,if_neg (by simp),hu]
theorem beginL:StP PL SL0∧okSt SL0:=by
  have h:=begin_St (p:=PL) (low:=0) (high:=3) PL_right (by decide) (by decide) (by decide)
  rw [show beginS PL 0 3=SL0 by decide] at h
  exact h
theorem updL {s s':State} {round:Int} {y:Vec} (h:StP PL s∧okSt s) (hu:updS PL s round y=s'):StP PL s'∧okSt s':=by
  have:=upd_St (round:=round) (y:=y) h.1 h.2
  rw [hu] at this
  exact ⟨this.1,this.2.1⟩
theorem up1:updS PL SL0 1 ⟨3,[⟨1,0⟩]⟩=SL1:=by
  unfold updS; rw [show sureSt PL SL0=SL0 from if_pos beginL.1]; decide
theorem st1:StP PL SL1∧okSt SL1:=updL beginL up1
theorem up2:updS PL SL1 2 ⟨3,[⟨2,1⟩]⟩=SL2:=by
  unfold updS; rw [show sureSt PL SL1=SL1 from if_pos st1.1]; decide
theorem st2:StP PL SL2∧okSt SL2:=updL st1 up2
theorem up3:updS PL SL2 3 ⟨3,[]⟩=SL3:=by
  unfold updS; rw [show sureSt PL SL2=SL2 from if_pos st2.1]; decide
theorem st3:StP PL SL3∧okSt SL3:=updL st2 up3
theorem go1:stepS PL TL SL0 1=(SL1,0):=step_of (x:=⟨3,[⟨0,0⟩]⟩) (l:=[⟨1,⟨0,0⟩⟩]) (y:=⟨3,[⟨1,0⟩]⟩) (by unfold outVS; rw [show sureSt PL SL0=SL0 from if_pos beginL.1]; decide) (by decide) (by decide) up1
theorem go2:stepS PL TL SL1 2=(SL2,0):=step_of (x:=⟨3,[⟨1,1⟩]⟩) (l:=[⟨2,⟨0,1⟩⟩]) (y:=⟨3,[⟨2,1⟩]⟩) (by unfold outVS; rw [show sureSt PL SL1=SL1 from if_pos st1.1]; decide) (by decide) (by decide) up2
theorem go3:stepS PL TL SL2 3=(SL3,0):=step_of (x:=⟨3,[⟨2,2⟩]⟩) (l:=[]) (y:=⟨3,[]⟩) (by unfold outVS; rw [show sureSt PL SL2=SL2 from if_pos st2.1]; decide) (by decide) (by decide) up3
theorem seqL1:seqS PL TL 1=SL1:=by show (stepS PL TL (seqS PL TL 0) 1).1=_; rw [seqL0,go1]
theorem seqL2:seqS PL TL 2=SL2:=by show (stepS PL TL (seqS PL TL 1) 2).1=_; rw [seqL1,go2]
theorem seqL3:seqS PL TL 3=SL3:=by show (stepS PL TL (seqS PL TL 2) 3).1=_; rw [seqL2,go3]
theorem lvL0:liveS PL SL0 0=1:=by unfold liveS; rw [show sureSt PL SL0=SL0 from if_pos beginL.1]; decide
theorem lvL1:liveS PL SL1 1=1:=by unfold liveS; rw [show sureSt PL SL1=SL1 from if_pos st1.1]; decide
theorem lvL2:liveS PL SL2 2=1:=by unfold liveS; rw [show sureSt PL SL2=SL2 from if_pos st2.1]; decide
theorem lvL3:liveS PL SL3 3=0:=by unfold liveS; rw [show sureSt PL SL3=SL3 from if_pos st3.1]; decide
theorem stop0 {limit:Int} (h:limit≠0):stopS PL TL limit 0=0:=by
  unfold stopS
  rw [seqL0,if_neg (by rw [show ((0:Nat):Int)=0 from rfl,lvL0]; decide),if_neg (fun h'=>h h'.symm),if_neg (by rw [show ((0:Nat):Int)+1=1 from rfl,go1]; simp)]
theorem stop1 {limit:Int} (h:limit≠1):stopS PL TL limit 1=0:=by
  unfold stopS
  rw [seqL1,if_neg (by rw [show ((1:Nat):Int)=1 from rfl,lvL1]; decide),if_neg (fun h'=>h h'.symm),if_neg (by rw [show ((1:Nat):Int)+1=2 from rfl,go2]; simp)]
theorem stop2 {limit:Int} (h:limit≠2):stopS PL TL limit 2=0:=by
  unfold stopS
  rw [seqL2,if_neg (by rw [show ((2:Nat):Int)=2 from rfl,lvL2]; decide),if_neg (fun h'=>h h'.symm),if_neg (by rw [show ((2:Nat):Int)+1=3 from rfl,go3]; simp)]
theorem runL9:MRun PL GL 9 TL 3 1:=⟨PL_right,TL_canon,TL_vals,PL_mat,by decide,by decide,fun k hk=>by
    rcases (show k=0∨k=1∨k=2 by omega) with rfl | rfl | rfl
    · exact stop0 (by decide)
    · exact stop1 (by decide)
    · exact stop2 (by decide),by
    unfold stopS
    rw [seqL3,if_pos (by rw [show ((3:Nat):Int)=3 from rfl,lvL3])],by decide⟩
theorem runL1:MRun PL GL 1 TL 1 2:=⟨PL_right,TL_canon,TL_vals,PL_mat,by decide,by decide,fun k hk=>by
    rcases (show k=0 by omega) with rfl
    exact stop0 (by decide),by
    unfold stopS
    rw [seqL1,if_neg (by rw [show ((1:Nat):Int)=1 from rfl,lvL1]; decide),if_pos (show ((1:Nat):Int)=1 from rfl)],by decide⟩
theorem live22_ok {Q:Bool→Prop} (hQ:Q true):law22_live Q:=by
  unfold law22_live
  refine model_Run_ok (p:=PL) (g:=GL) runL9 (model_Trace_ok (p:=PL) (g:=GL) runL1 (model_Run_bad (p:=PL) (g:=GL) (by decide) ?_))
  rw [show checkS PL GL (-1)=3 by decide]
  have e3:(lastS PL TL 3 1).State=SL3:=seqL3
  have hls:lenSt (lastS PL TL 3 1).State:=by rw [e3]; unfold lenSt; decide
  refine ifP_pos rfl (ifP_pos rfl (ifP_pos rfl ?_))
  rw [e3]
  refine eqV_ok (by decide) (ifP_pos (by decide) (ifP_pos rfl (ifP_pos (by simp [listS_len]) (ifP_pos rfl (model_Check_ok (p:=PL) (g:=GL) ?_)))))
  rw [show checkS PL GL 0=0 by decide]
  refine ifP_pos rfl (model_Check_ok (p:=PL) ?_)
  rw [show checkS PL ({ N:=0,Edges:=([]:List Edge) }:Graph) 0=4 by decide]
  refine ifP_pos rfl (model_Same_ok hls (ifP_pos (by simp) (model_Same_ok hls ?_)))
  rw [decide_eq_false (by intro h; cases h)]
  exact hQ
theorem ModelWrong_ok (a0:Plan) (a1:Graph) (a2:Int) (h:inR .i64 a2):law22_ModelWrong a0 a1 a2 (fun r=>r=true):=by
  unfold law22_ModelWrong
  have hk:model_Run a0 a1 a2 fun r100=>ref22_Run a0 a1 a2 fun r138=>law22_live fun r157=>ifP r157 (ifP (r100.2==r138.2) (ref22_Same r100.1 r138.1 fun r163=>ifP r163 (model_Check a0 a1 a2 fun r168=>ref22_Check a0 a1 a2 fun r172=>(fun r=>r=true) (r168==r172)) ((fun r=>r=true) false)) ((fun r=>r=true) false)) ((fun r=>r=true) false):=by
    by_cases hc:checkS a0 a1 a2=0
    · obtain ⟨T,n,st,R⟩:=runs_ex hc
      exact model_Run_ok R (ref22_Run_ok R (live22_ok (ifP_pos rfl (ifP_pos rfl (ref22_Same_ok (R.lens (Nat.le_refl _)) (ifP_pos (by simp) (model_Check_ok (ref22_Check_ok (by simp)))))))))
    · exact model_Run_bad hc (ref22_Run_bad hc (live22_ok (ifP_pos rfl (ifP_pos (by simp) (ref22_Same_ok zSt_len (ifP_pos (by simp) (model_Check_ok (ref22_Check_ok (by simp)))))))))
  unfold joinP
  refine ifP_dec (fun _=>live22_ok rfl) (fun _=>ifP_dec (fun _=>live22_ok rfl) (fun _=>ifP_dec (fun _=>live22_ok rfl) (fun _=>ifP_dec (fun _=>ifP_dec (fun _=>live22_ok rfl) (fun _=>hk)) (fun _=>hk))))
end Go.Proofs.YtccpfgdefibdnaaGreat
