import Derived.Test.YtaefnmlbnkmahaaGreatOK
import Derived.Test.YtaefnmlbnkmahaaGreatModE
namespace Go.Proofs.YtaefnmlbnkmahaaGreat
open Go Go.Fw
set_option linter.unusedVariables false
set_option linter.unusedSimpArgs false
theorem sumsR_P {r rows cols:Int} {T:List Triple} {v:Vec} {f:List Int} {o:Bool} (h:rows≤4096):(sumsR r rows cols T v f o).1.length≤4096∧okS (sumsR r rows cols T v f o).1:=by
  unfold sumsR
  repeat' split
  · exact ⟨by simp,by simp [okS]⟩
  · exact ⟨by simp,by simp [okS]⟩
  · have hp:=sumsS_prop r cols.toNat f o (fun i=>lkI (rowI T i)) (lkI v.Items) rows.toNat
    exact ⟨by have:=hp.2.1; simp only; omega,hp.2.2.1⟩
theorem pull_Times_ok {r rows cols:Int} {T:List Triple} {v:Vec} {f:List Int} {o:Bool} {Q:Vec×Int→Prop} (h:Canon rows cols T) (hT:∀ t∈T,inI t.Val) (hv:VecP v) (hvv:∀ y∈v.Items,inI y.Val)
    (hf:okF f) (hQ:Q (if (sumsR r rows cols T v f o).2≠0 then (zV,(sumsR r rows cols T v f o).2) else doneS r rows (sumsR r rows cols T v f o).1)):pull_Times r (builtS rows cols T) (denS v) f o Q:=by
  unfold pull_Times
  have hp:=sumsR_P (r:=r) (cols:=cols) (T:=T) (v:=v) (f:=f) (o:=o) h.r1
  refine pull_Sums_ok h hT hv hvv hf (ifP_ne (fun hne=>?_) (fun he=>?_))
  · rw [if_pos hne] at hQ; exact hQ
  · rw [if_neg (fun h=>h he)] at hQ
    exact pull_sure_ok h hv (pull_Done_ok (by omega) hp.2 hQ)
theorem ask_okF (p:Plan) (s:State):okF (askS p s).1:=by
  unfold askS
  repeat' split
  · exact (ofF_prop _ _).1
  · exact (ofF_prop _ _).1
  · simp [okF]
theorem at0_inI {l:List Int} (h:∀ x∈l,inI x) (i:Nat):inI (at0 l i):=by
  by_cases hl:i<l.length
  · have:at0 l i=l[i]:=by unfold at0; simp [hl]
    rw [this]; exact h _ (List.getElem_mem hl)
  · rw [at0_over (by omega)]; unfold inI; omega
theorem Whole.out {p:Plan} {s:State} (h:Whole p s) (round:Int):VecP (outVS p s round)∧(∀ y∈(outVS p s round).Items,inI y.Val)∧(outVS p s round).N=p.N:=by
  have hz:=rightPl_zero h.st.1
  have e:((sizN s:Nat):Int)=s.High - s.Low:=by unfold sizN; have:=h.lo; have:=h.hi; omega
  have hlo:=h.lo; have hhi:=h.hi
  unfold outVS
  rw [h.sure]
  refine ⟨?_,fun y hy=>?_,by simp only; omega⟩
  · have:=out_vecP (n:=sizN s) (by omega) (tellsS p s round)
    rw [e] at this; exact this
  · obtain ⟨i,hi,he⟩:=List.mem_filterMap.1 (show y∈outI _ _ from hy)
    have hi:=List.mem_range.1 hi
    split at he
    · cases he
      have ha:=at0_inI h.va i
      show inI (tellsS p s round i).1
      unfold tellsS
      repeat' split
      · unfold inI; simp only; omega
      · unfold inI; simp only; omega
      · have hd:0≤dnum p round (s.Low+i)∧dnum p round (s.Low+i)≤17592186044416:=by
          unfold dnum numS
          split
          · have:=dv_in hz.2.2.2.2.2 ((round - 1) / 2*p.N+(s.Low+i)); omega
          · omega
        unfold inI; simp only; omega
      · exact ha
    · cases he
theorem Whole.ask {p:Plan} {s:State} {round:Int} {Q:List Int×Bool→Prop} (h:Whole p s) (hQ:Q (askS p s)):prog_Asked p s round Q:=prog_Asked_ok h.ok (by rw [h.sure]; exact hQ)
theorem whole_ok {p:Plan} {s:State} {Q:Bool→Prop} (h:Whole p s) (hQ:Q true):model_whole p s Q:=by
  unfold model_whole
  have ho:=h.out 1
  have hz:=rightPl_zero h.st.1
  have e:sizN s=p.N.toNat:=by unfold sizN; have:=h.lo; have:=h.hi; omega
  have hal:=h.st.2.2.2.2.1; have hbl:=h.st.2.2.2.2.2.1; have hr:=h.st.2.2.2.2.2.2
  rw [h.hi,h.lo,Int.sub_zero] at hr
  refine ifP_pos (by simp [h.lo]) (ifP_pos (by simp [h.hi]) (prog_Out_ok h.ok (by omega) (ifP_pos (by simpa using ho.2.2) (ifP_pos ?_ (ifP_pos ?_ (flags_Right_ok h.ok.1 h.ok.2 ?_))))))
  · simp only [beq_iff_eq]; omega
  · simp only [beq_iff_eq]; omega
  · rw [decide_eq_true hr]; exact hQ
theorem model_Step_ok {p:Plan} {T:List Triple} {s:State} {round:Int} {Q:State×Int→Prop} (hp:rightPl p=0) (h:Canon p.N p.N T) (hT:∀ t∈T,inI t.Val) (hs:Whole p s) (hr:0≤round∧round≤1000000) (hQ:Q (stepS p T s round)):model_Step p (builtS p.N p.N T) s round Q:=by
  unfold model_Step
  have ho:=hs.out round
  refine prog_Right_ok (ifP_neg (by simp [hp]) ?_)
  refine join_intro (fun t=>(⟨t.1,t.2.1,t.2.2.1,t.2.2.2.1,t.2.2.2.2⟩:Rows)=builtS p.N p.N T) ?_ ?_
  · rintro ⟨t1,t2,t3,t4,t5⟩ ht
    simp only at ht ⊢
    have e1:t1=p.N:=congrArg Rows.Rows ht
    have e2:t2=p.N:=congrArg Rows.Cols ht
    rw [ht]
    refine ifP_neg (by simp [e1]) (ifP_neg (by simp [e2]) (whole_ok hs (ifP_neg rfl (hs.ask (prog_Ring_ok (prog_Out_ok hs.ok hr (devec_Of_ok (by have:=ho.1.len; omega) ?_)))))))
    rw [sureV_id ho.1]
    refine pull_Times_ok h hT ho.1 ho.2.1 (ask_okF p s) ?_
    unfold stepS at hQ
    change Q (if (stepY p T s round).2≠0 then _ else _) at hQ
    have hyl:(stepY p T s round).1.Items.length≤1000000:=by
      unfold stepY
      have hsp:=sumsR_P (r:=ringPl p.Kind round) (cols:=p.N) (T:=T) (v:=outVS p s round) (f:=(askS p s).1) (o:=(askS p s).2) h.r1
      split
      · simp [zV]
      · unfold doneS
        repeat' split
        · simp [zV]
        · simp [zV]
        · simp [zV]
        · simp [zV]
        · have:=List.length_filterMap_le (nzI (ringPl p.Kind round)) (stepX p T s round).1
          unfold stepX at this ⊢
          simp only; omega
    show ifP ((stepY p T s round).2 != 0) _ _
    refine ifP_ne (fun hne=>?_) (fun he=>?_)
    · rw [if_pos hne] at hQ; exact hQ
    · rw [if_neg (fun h=>h he)] at hQ
      exact prog_Update_ok hs.ok hr hyl hQ
  · intro k hk
    refine right_ok h.sml ?_
    rw [decide_eq_true h.right]
    exact ifP_neg rfl (hk _ rfl)
def checkS (p:Plan) (g:Graph) (limit:Int):Int:=if (matS p g).2≠0 then (matS p g).2 else if limit<0∨8192<limit then 3 else 0
theorem model_Check_ok {p:Plan} {g:Graph} {limit:Int} {Q:Int→Prop} (hQ:Q (checkS p g limit)):model_Check p g limit Q:=by
  unfold model_Check
  unfold checkS at hQ
  refine prog_Matrix_ok (ifP_ne (fun h=>by rwa [if_pos h] at hQ) (fun h=>?_))
  rw [if_neg (fun h'=>h' h)] at hQ
  exact ifP_dec (fun h1=>by rwa [if_pos (.inl h1)] at hQ) (fun h1=>ifP_dec (fun h2=>by rwa [if_pos (.inr h2)] at hQ) (fun h2=>by rwa [if_neg (by omega)] at hQ))
theorem ends_loop {S:Type} {p:Plan} {T:List Triple} {limit:Int} {n:Nat} {st:Int} (hp:rightPl p=0) (hl:0≤limit∧limit≤8192) (E:Ends p T limit n st) {body:S→(S→Prop)→Prop} {enc:Nat→S}
    (hgo:∀ k next,k<n→Whole p (seqS p T k)→liveS p (seqS p T k) k≠0→(k:Int)≠limit→stepS p T (seqS p T k) ((k:Int)+1)=(seqS p T (k+1),0)→next (enc (k+1))→body (enc k) next)
    (hend:∀ next,Whole p (seqS p T n)→stopS p T limit n=st→body (enc n) next):loopP body (enc 0):=by
  refine range_intro (fun (s:Unit) i=>enc i.toNat) 0 n (by have:=E.le; omega) (fun _ _=>True) (by omega) (s0:=()) trivial (fun i s next _ hi _ hn=>?_) (fun s next _=>?_)
  · have hg:=stop_go (E.lt i hi)
    have hw:=seq_whole hp hl (k:=i) fun j hj=>E.lt j (by omega)
    have hn:=hn () trivial
    have e:(w64 ((i:Int)+1)).toNat=i+1:=by rw [w64_id (by omega) (by have:=E.le; omega)]; omega
    simp only [e] at hn
    simp only [Int.toNat_natCast]
    refine hgo i next hi hw hg.1 hg.2.1 ?_ hn
    have:(stepS p T (seqS p T i) ((i:Int)+1)).1=seqS p T (i+1):=rfl
    rw [←this,←hg.2.2]
  · simp only [Int.toNat_natCast]
    exact hend next (seq_whole hp hl (k:=n) fun j hj=>E.lt j hj) E.at_
def lastS (p:Plan) (T:List Triple) (n:Nat) (st:Int):Result:=⟨st,n,seqS p T n⟩
theorem stop_is {p:Plan} {T:List Triple} {limit:Int} {k:Nat} {st:Int} (hs:st≠0) (h:stopS p T limit k=st):(liveS p (seqS p T k) k=0∧st=1)∨(liveS p (seqS p T k) k≠0∧(k:Int)=limit∧st=2)∨(liveS p (seqS p T k) k≠0∧(k:Int)≠limit∧(stepS p T (seqS p T k) ((k:Int)+1)).2≠0∧st=3):=by
  unfold stopS at h
  split at h
  · rename_i h1; exact .inl ⟨h1,h.symm⟩
  · split at h
    · rename_i h1 h2; exact .inr (.inl ⟨h1,h2,h.symm⟩)
    · split at h
      · rename_i h1 h2 h3; exact .inr (.inr ⟨h1,h2,h3,h.symm⟩)
      · exact absurd h.symm hs
structure MRun (p:Plan) (g:Graph) (limit:Int) (T:List Triple) (n:Nat) (st:Int):Prop where
  rp:rightPl p=0
  cn:Canon p.N p.N T
  vs:∀ t∈T,inI t.Val
  mt:matS p g=(builtS p.N p.N T,0)
  lm:0≤limit∧limit≤8192
  en:Ends p T limit n st
theorem MRun.check {p:Plan} {g:Graph} {limit:Int} {T:List Triple} {n:Nat} {st:Int} (R:MRun p g limit T n st):checkS p g limit=0:=by
  unfold checkS
  rw [R.mt,if_neg (by simp),if_neg (by have:=R.lm; omega)]
theorem model_Run_ok {p:Plan} {g:Graph} {limit:Int} {T:List Triple} {n:Nat} {st:Int} {Q:Result×Int→Prop} (R:MRun p g limit T n st) (hQ:Q (lastS p T n st,0)):model_Run p g limit Q:=by
  unfold model_Run
  refine model_Check_ok (ifP_neg (by simp [R.check]) ?_)
  obtain ⟨hp,hc,hT,hm,hl,E⟩:=R
  unfold model_states_18b model_states_1_e9c
  refine prog_Matrix_ok ?_
  rw [hm]
  refine prog_Begin_ok ?_
  show loopP _ ((0:Int),(-1:Int),(0:Int),(0:Int),([]:List Int),([]:List Int),([]:List Int),(seqS p T 0).Low,(seqS p T 0).High,(seqS p T 0).A,(seqS p T 0).B,(seqS p T 0).On,(0:Int),(0:Nat))
  let prev:Nat→State:=fun k=>match k with | 0=>zSt | k+1=>seqS p T k
  refine ends_loop (S:=Int×Int×Int×Int×List Int×List Int×List Int×Int×Int×List Int×List Int×List Int×Int×Nat) hp hl E (enc:=fun k=>(0,(k:Int) - 1,(prev k).Low,(prev k).High,(prev k).A,(prev k).B,(prev k).On,(seqS p T k).Low,(seqS p T k).High,(seqS p T k).A,(seqS p T k).B,(seqS p T k).On,(k:Int),0)) (fun k next hk hw hv hl' hst hn=>?_) (fun next hw hst=>?_)
  · have hkl:(k:Int)≤8192:=by have:=E.le; omega
    have ew:w64 ((k:Int) - 1+1)=k:=by rw [w64_id (by omega) (by omega)]; omega
    have ew2:w64 ((k:Int)+1)=(k+1:Nat):=by rw [w64_id (by omega) (by omega)]; omega
    dsimp only
    refine ⟨rfl,ifP_pos rfl (prog_Live_ok hw.ok (ifP_neg (by simpa using hv) (ifP_neg (by simpa using hl') ?_)))⟩
    rw [ew2]
    refine model_Step_ok hp hc hT hw (by omega) ?_
    have:((k+1:Nat):Int)=(k:Int)+1:=by omega
    rw [this,hst]
    refine ifP_neg rfl ?_
    have hn':=hn
    simp only [this] at hn'
    rw [ew]
    simpa [prev] using hn'
  · have hkl:(n:Int)≤8192:=by have:=E.le; omega
    have ew:w64 ((n:Int) - 1+1)=n:=by rw [w64_id (by omega) (by omega)]; omega
    have ew2:w64 ((n:Int)+1)=(n:Int)+1:=w64_id (by omega) (by omega)
    dsimp only
    rw [ew,ew2]
    refine ⟨rfl,ifP_pos rfl (prog_Live_ok hw.ok ?_)⟩
    rcases stop_is E.ne hst with ⟨h1,rfl⟩ | ⟨h1,h2,rfl⟩ | ⟨h1,h2,h3,rfl⟩
    · exact ifP_pos (by simpa using h1) ⟨rfl,hQ⟩
    · exact ifP_neg (by simpa using h1) (ifP_pos (by simpa using h2) ⟨rfl,hQ⟩)
    · exact ifP_neg (by simpa using h1) (ifP_neg (by simpa using h2) (model_Step_ok hp hc hT hw (by omega) (ifP_pos (by simpa using h3) ⟨rfl,hQ⟩)))
theorem Graph_ok {a:Graph} {Q:Graph→Prop} (hQ:∀ g:Graph,0≤g.N∧g.N≤23→g.Edges.length≤60→rightG g=0→Q g):law21_Graph a Q:=by
  unfold law21_Graph
  refine Within_ok (fun h=>by omega) (fun _ n h0 h1=>?_)
  have hend:∀ es:List Edge,es.length≤60→goodE n es→Q ⟨n,es⟩:=fun es he hg=>hQ _ ⟨h0,by simp only; omega⟩ he (good_right (by simp only; omega) (by simp only; omega) hg)
  refine range_intro (fun (s:List Edge) i=>(s,i)) 0 (min a.Edges.length 60) (by omega) (fun i s=>s.length≤i∧goodE n s) (by omega) (s0:=[]) ⟨by simp,by intro e he; simp at he⟩ (fun i s next _ hi hm hn=>?_) (fun s next hm=>?_)
  · dsimp only
    refine ifP_dec (fun _=>ifP_dec (fun _=>ifP_dec (fun hn0=>idxP_nat (by omega) ?_) (fun _=>hend s (by omega) hm.2)) (fun h=>by omega)) (fun h=>by omega)
    refine Within_ok (fun h=>by omega) fun _ u u0 u1=>Within_ok (fun h=>by omega) fun _ v v0 v1=>appP_intro (by simp; omega) (hn _ ⟨by simp; omega,fun e he=>?_⟩)
    rcases List.mem_append.1 he with h | h
    · exact hm.2 e h
    · rw [List.mem_singleton.1 h]
      have:=bnd_le (a.Edges[i]'(by omega)).W (m:=2147483647) (by omega)
      refine ⟨⟨⟨u0,u1⟩,v0,v1⟩,?_⟩
      unfold wOk
      simp only; omega
  · dsimp only
    exact ifP_dec (fun _=>ifP_dec (fun _=>by omega) (fun _=>hend s (by omega) hm.2)) (fun _=>hend s (by omega) hm.2)
def bAt (B:List Triple) (c:Int) (k:Int):Option Int:=lkI (rowI B k) c
def cellW (r:Int) (A B:List Triple) (i c:Int):Option Wide:=(rowI A i).foldl (stepI r (bAt B c)) none
def cellO (r:Int) (A B:List Triple) (t:Triple):Option Cell:=(cellW r A B t.Row t.Col).map fun w=>⟨t.Row,t.Col,w⟩
def cellsS (r:Int) (A B M:List Triple):List Cell:=M.filterMap (cellO r A B)
theorem gemm_part_ok {rows cols:Int} {ts:List Triple} {i:Nat} {Q:List Int×List Int→Prop} (h:Canon rows cols ts) (hi:(i:Int)<rows) (hQ:Q ((segS ts i).map (·.Col),(segS ts i).map (·.Val))):gemm_part (builtS rows cols ts) i Q:=by
  unfold gemm_part
  have hr:=h.r1
  obtain ⟨lo,hi',s⟩:=h.seg i
  have e1:w64 ((i:Int)+1)=(i+1:Nat):=by rw [w64_id (by omega) (by omega)]; omega
  rw [e1]
  refine start_idx (by omega) (start_idx (by omega) ?_)
  rw [s.lo,s.hi]
  have h1:=s.le; have h2:=s.len
  have hc:(builtS rows cols ts).Col.length=ts.length:=by simp [builtS]
  have hv:(builtS rows cols ts).Val.length=ts.length:=by simp [builtS]
  refine ⟨by omega,by omega,by omega,by omega,by omega,by omega,?_⟩
  simp only [Int.toNat_natCast,builtS,←List.map_take,←List.map_drop,s.eq]
  exact hQ
theorem gemm_sure_ok {l:List Rows} {Q:List Rows→Prop} (hl:l.length≤100) (h:∀ a∈l,small a∧RightP a) (hQ:Q l):gemm_sure l Q:=by
  unfold gemm_sure
  refine range_intro (fun (s:List Rows) i=>(s,i)) 0 l.length (by omega) (fun i s=>s=l.take i) (by omega) rfl (fun i s next _ hi hm hn=>?_) (fun s next hm=>?_)
  · subst hm
    have hx:=h _ (List.getElem_mem hi)
    refine ifP_dec (fun _=>idxP_nat hi (right_ok hx.1 ?_)) (fun h=>by omega)
    rw [decide_eq_true hx.2]
    refine ifP_neg rfl (appP_intro (by simp; omega) (hn _ ?_))
    rw [List.take_succ_eq_append_getElem hi]
  · subst hm
    rw [List.take_length]
    exact ifP_dec (fun h=>by omega) (fun _=>hQ)
theorem seg_inc {ts:List Triple} (h:Srt ts) (i:Nat):IncI ((segS ts i).map itS):=by
  unfold IncI segS
  rw [List.pairwise_map]
  refine List.Pairwise.imp_of_mem ?_ (List.Pairwise.filter _ h)
  intro a b ha hb hab
  have h1:=of_decide_eq_true (List.mem_filter.1 ha).2
  have h2:=of_decide_eq_true (List.mem_filter.1 hb).2
  unfold ltK key at hab
  simp only [itS]
  simp only at hab
  omega
def MapOk (m:List (Int×Wide)) (asked:Int→Bool) (f:Int→Option Wide):Prop:=(∀ c,asked c=true→mget c m=f c)∧∀ c w,mget c m=some w→okW w
theorem lkP_of {l:List (Int×Bool)} {k:Int} {C:Bool→Prop} (h:C ((mget k l).getD false)):lkP l k false C:=lkP_intro h
theorem gemm_row_ok {r ra ca rb cb:Int} {A B:List Triple} {asked:List (Int×Bool)} {i:Nat} {Q:List (Int×Wide)→Prop} (hA:Canon ra ca A) (hB:Canon rb cb B) (hab:ca≤rb) (hi:(i:Int)<ra) (hr:1≤r∧r≤5) (hvA:∀ t∈A,inI t.Val) (hvB:∀ t∈B,inI t.Val)
    (hQ:∀ m,MapOk m (fun c=>(mget c asked).getD false) (cellW r A B i)→Q m):gemm_row_3a1 asked r (builtS ra ca A) (builtS rb cb B) i Q:=by
  unfold gemm_row_3a1
  refine gemm_part_ok hA hi ?_
  have hsl:=seg_len_le A i
  have hAl:=hA.len
  have hBl:=hB.len
  have hrow:∀ t∈segS A i,(0≤t.Col∧t.Col<ca)∧inI t.Val:=fun t ht=>by
    have hm:=(List.mem_filter.1 ht).1
    have:=hA.inn t hm
    unfold inT at this
    exact ⟨⟨this.2.2.1,this.2.2.2⟩,hvA t hm⟩
  unfold cellW at hQ
  rw [show rowI A (i:Int)=(segS A i).map itS from rfl] at hQ
  generalize segS A i=xs at hQ hsl hrow
  refine range_intro (fun (s:List (Int×Wide)) k=>(s,k)) 0 xs.length (by omega) (fun k m=>MapOk m (fun c=>(mget c asked).getD false) fun c=>((xs.take k).map itS).foldl (stepI r (bAt B c)) none) (by omega) ⟨fun c _=>rfl,fun c w h=>by simp [mget] at h⟩ (fun k m next _ hk hm hn=>?_) (fun m next hm=>?_)
  · dsimp only
    have hx:=hrow _ (List.getElem_mem hk)
    refine ifP_dec (fun _=>idxP_intro (by omega) (x:=xs[k].Col) (by simp [hk]) ?_) (fun h=>by simp at h; omega)
    obtain ⟨c0,hc0⟩:∃ c0:Nat,xs[k].Col=(c0:Int):=⟨xs[k].Col.toNat,by omega⟩
    rw [hc0]
    refine gemm_part_ok hB (by omega) ?_
    have hinc:=seg_inc hB.srt c0
    have hsl2:=seg_len_le B c0
    have hrow2:∀ t∈segS B c0,inI t.Val:=fun t ht=>hvB t (List.mem_filter.1 ht).1
    have hbat:∀ c,bAt B c xs[k].Col=lkI ((segS B c0).map itS) c:=fun c=>by unfold bAt rowI; rw [hc0]; rfl
    generalize segS B c0=ys at hinc hsl2 hrow2 hbat
    -- how it is behind so many of the row's items
    let F:Nat→Int→Option Wide:=fun j c=>match lkI ((ys.take j).map itS) c with
      | some b=>cmb r (((xs.take k).map itS).foldl (stepI r (bAt B c)) none) (some (mulW r xs[k].Val b))
      | none=>((xs.take k).map itS).foldl (stepI r (bAt B c)) none
    have hF0:F 0=fun c=>((xs.take k).map itS).foldl (stepI r (bAt B c)) none:=rfl
    refine range_intro (fun (s:List (Int×Wide)) j=>(s,j)) 0 ys.length (by omega) (fun j m=>MapOk m (fun c=>(mget c asked).getD false) (F j)) (by omega) (by rw [hF0]; exact hm) (fun j m' nx _ hj hm' hnx=>?_) (fun m' nx hm'=>?_)
    · dsimp only
      have htk:(ys.take (j+1)).map itS=(ys.take j).map itS++[itS ys[j]]:=take_map hj
      have hFs:∀ c,F (j+1) c=if c=ys[j].Col then F (j+1) c else F j c:=fun c=>by
        by_cases e:c=ys[j].Col
        · rw [if_pos e]
        · rw [if_neg e]
          have:lkI ((ys.take (j+1)).map itS) c=lkI ((ys.take j).map itS) c:=by
            rw [htk,lkI_append]
            have h0:lkI [itS ys[j]] c=none:=lkI_none fun s hs=>by simp only [List.mem_singleton] at hs; subst hs; exact fun h=>e h.symm
            rw [h0]; split <;> simp_all
          show (match lkI ((ys.take (j+1)).map itS) c with | some b=>_ | none=>_)=_
          rw [this]
      have hnew:lkI ((ys.take j).map itS) ys[j].Col=none:=lkI_none fun s hs=>by
        obtain ⟨t,ht,rfl⟩:=List.mem_map.1 hs
        obtain ⟨q,hq,rfl⟩:=List.getElem_of_mem ht
        rw [List.length_take] at hq
        rw [List.getElem_take]
        have hlen:(ys.map itS).length=ys.length:=by simp
        have:=hinc.at (i:=q) (j:=j) (by omega) (by omega)
        simp only [List.getElem_map] at this
        intro h
        simp only [itS] at this h
        omega
      have hold:F j ys[j].Col=((xs.take k).map itS).foldl (stepI r (bAt B ys[j].Col)) none:=by
        show (match lkI ((ys.take j).map itS) ys[j].Col with | some b=>_ | none=>_)=_
        rw [hnew]
      have hhit:F (j+1) ys[j].Col=cmb r (F j ys[j].Col) (some (mulW r xs[k].Val ys[j].Val)):=by
        rw [hold]
        have:lkI ((ys.take (j+1)).map itS) ys[j].Col=some ys[j].Val:=by rw [htk,lkI_append,hnew]; simp [lkI_cons,itS]
        show (match lkI ((ys.take (j+1)).map itS) ys[j].Col with | some b=>_ | none=>_)=_
        rw [this]
      have hy:=hrow2 _ (List.getElem_mem hj)
      refine ifP_dec (fun _=>idxP_intro (by omega) (x:=ys[j].Col) (by simp [hj]) (lkP_of ?_)) (fun h=>by simp at h; omega)
      cases ha:(mget ys[j].Col asked).getD false with
      | false=>
        refine ifP_pos rfl (hnx _ ⟨fun c hc=>?_,hm'.2⟩)
        rw [hFs,if_neg (fun e=>by subst e; simp only at hc; rw [ha] at hc; cases hc)]
        exact hm'.1 c hc
      | true=>
        have hcur:=hm'.1 ys[j].Col ha
        refine ifP_neg rfl (idxP_intro (by omega) (x:=xs[k].Val) (by simp [hk]) (idxP_intro (by omega) (x:=ys[j].Val) (by simp [hj]) (ring_Mul_ok hx.2 hy (lk2P_intro (fun w hw=>?_) (fun hw=>?_)))))
        · refine ifP_pos rfl (ring_Add_ok (hm'.2 _ _ hw) (mulW_okW _ _ _) (hnx _ ⟨fun c hc=>?_,fun c u hu=>?_⟩))
          · by_cases e:c=ys[j].Col
            · subst e; rw [mget_mput_same,hhit,←hcur,hw]; rfl
            · rw [mget_mput_other e,hFs,if_neg e]; exact hm'.1 c hc
          · by_cases e:c=ys[j].Col
            · subst e; rw [mget_mput_same] at hu; cases hu; exact addW_okW (hm'.2 _ _ hw) (mulW_okW _ _ _)
            · rw [mget_mput_other e] at hu; exact hm'.2 c u hu
        · refine ifP_neg rfl (hnx _ ⟨fun c hc=>?_,fun c u hu=>?_⟩)
          · by_cases e:c=ys[j].Col
            · subst e; rw [mget_mput_same,hhit,←hcur,hw]; rfl
            · rw [mget_mput_other e,hFs,if_neg e]; exact hm'.1 c hc
          · by_cases e:c=ys[j].Col
            · subst e; rw [mget_mput_same] at hu; cases hu; exact mulW_okW _ _ _
            · rw [mget_mput_other e] at hu; exact hm'.2 c u hu
    · dsimp only
      refine ifP_dec (fun h=>by simp at h) (fun _=>hn _ ⟨fun c hc=>?_,hm'.2⟩)
      rw [hm'.1 c hc,take_map hk]
      show F ys.length c=List.foldl (stepI r (bAt B c)) none ((xs.take k).map itS++[itS xs[k]])
      rw [List.foldl_append]
      show (match lkI ((ys.take ys.length).map itS) c with | some b=>_ | none=>_)=stepI r (bAt B c) _ (itS xs[k])
      rw [List.take_length,←hbat c]
      unfold stepI
      simp only [itS]
      all_goals (split <;> simp_all)
  · dsimp only
    rw [List.take_length] at hm
    exact ifP_dec (fun h=>by simp at h) (fun _=>hQ m hm)
def cellsR (r ra ca rb cb rm cm:Int) (A B M:List Triple):List Cell×Int:=
  if ¬(1≤r∧r≤5) then ([],8) else if ca≠rb∨rm≠ra∨cm≠cb then ([],4) else (cellsS r A B M,0)
theorem cells_len (r:Int) (A B M:List Triple):(cellsS r A B M).length≤M.length:=List.length_filterMap_le _ _
theorem take_seg {T:List Triple} {i lo hi:Nat} (s:Seg T i lo hi):T.take hi=T.take lo++segS T i:=by
  have h:=List.take_append_drop lo (T.take hi)
  rw [s.eq,List.take_take,Nat.min_eq_left s.le] at h
  exact h.symm
theorem gemm_Cells_ok {r ra ca rb cb rm cm:Int} {A B M:List Triple} {Q:List Cell×Int→Prop} (hA:Canon ra ca A) (hB:Canon rb cb B) (hM:Canon rm cm M) (hvA:∀ t∈A,inI t.Val) (hvB:∀ t∈B,inI t.Val)
    (hQ:Q (cellsR r ra ca rb cb rm cm A B M)):gemm_Cells r (builtS ra ca A) (builtS rb cb B) (builtS rm cm M) Q:=by
  unfold gemm_Cells
  refine gemm_sure_ok (by simp) (fun a ha=>?_) (idxP_intro (by omega) rfl (idxP_intro (by omega) rfl (idxP_intro (by omega) rfl (ring_Is_ok ?_))))
  · simp only [List.mem_cons,List.not_mem_nil,or_false] at ha
    rcases ha with rfl | rfl | rfl
    · exact ⟨hA.sml,hA.right⟩
    · exact ⟨hB.sml,hB.right⟩
    · exact ⟨hM.sml,hM.right⟩
  unfold cellsR at hQ
  refine ifP_not (fun h=>?_) (fun h=>?_)
  · rwa [if_pos (of_decide_eq_false h)] at hQ
  have hr:=of_decide_eq_true h
  rw [if_neg (fun h=>h hr)] at hQ
  have hbad (hb:ca≠rb∨rm≠ra∨cm≠cb):Q ([],4):=by rwa [if_pos hb] at hQ
  refine ifP_ne (fun h=>hbad (.inl h)) (fun h1=>ifP_ne (fun h=>hbad (.inr (.inl h))) (fun h2=>ifP_ne (fun h=>hbad (.inr (.inr h))) (fun h3=>?_)))
  have h1:ca=rb:=h1
  have h2:rm=ra:=h2
  have h3:cm=cb:=h3
  rw [if_neg (by omega)] at hQ
  have hrm:=hM.r0; have hrm1:=hM.r1; have hMl:=hM.len
  obtain ⟨n,hn⟩:∃ n:Nat,rm=(n:Int):=⟨rm.toNat,by omega⟩
  have hR:(builtS rm cm M).Rows=(n:Int):=hn
  rw [hR]
  refine range_intro (fun (s:List Cell) i=>(s,i)) 0 n (by omega) (fun i s=>s=(M.take (below M i).toNat).filterMap (cellO r A B)) (by omega) (by rw [below_zero (fun t ht=>(hM.inn t ht).1)]; rfl) (fun i s next _ hi hm hnx=>?_) (fun s next hm=>?_)
  · subst hm
    dsimp only
    obtain ⟨lo,hi',sg⟩:=hM.seg i
    have hlo:=sg.lo; have hhi:=sg.hi; have hle:=sg.le; have hlen:=sg.len
    have htk:=take_seg sg
    rw [show (below M i).toNat=lo by omega]
    have hnx':=hnx ((M.take lo).filterMap (cellO r A B)++(segS M i).filterMap (cellO r A B)) (by rw [show (below M (i+1)).toNat=hi' by omega,htk,List.filterMap_append])
    clear hnx
    have hrow:∀ t∈segS M i,t.Row=(i:Int):=fun t ht=>of_decide_eq_true (List.mem_filter.1 ht).2
    have hout:((M.take lo).filterMap (cellO r A B)).length≤65536:=by
      have:=List.length_filterMap_le (cellO r A B) (M.take lo)
      rw [List.length_take] at this; omega
    have hsl:=seg_len_le M i
    refine ifP_dec (fun _=>gemm_part_ok hM (by omega) ?_) (fun h=>by omega)
    generalize (M.take lo).filterMap (cellO r A B)=out at hnx' hout ⊢
    generalize segS M i=xs at hnx' hrow hsl ⊢
    refine range_intro (fun (s:List (Int×Bool)) k=>(s,k)) 0 xs.length (by omega) (fun k m=>∀ q (hq:q<xs.length),q<k→mget xs[q].Col m=some true) (by omega) (fun q hq h=>by omega) (fun k m nx _ hk hm hnk=>?_) (fun m nx hm=>?_)
    · dsimp only
      refine ifP_dec (fun _=>idxP_intro (by omega) (x:=xs[k].Col) (by simp [hk]) (hnk _ fun q hq hqk=>?_)) (fun h=>by simp at h; omega)
      by_cases e:xs[q].Col=xs[k].Col
      · rw [e,mget_mput_same]
      · rw [mget_mput_other e]
        refine hm q hq ?_
        by_cases e2:q=k
        · subst e2; exact absurd rfl e
        · omega
    · dsimp only
      refine ifP_dec (fun h=>by simp at h) (fun _=>?_)
      refine gemm_row_ok hA hB (by omega) (by omega) hr hvA hvB fun sums hsums=>?_
      refine range_intro (fun (s:List Cell) k=>(s,k)) 0 xs.length (by omega) (fun k s=>s=out++(xs.take k).filterMap (cellO r A B)) (by omega) (by simp) (fun k s ny _ hk hm2 hny=>?_) (fun s ny hm2=>?_)
      · subst hm2
        dsimp only
        have hlk:=List.length_filterMap_le (cellO r A B) (xs.take k)
        rw [List.length_take] at hlk
        have hask:=hm k hk hk
        have hcur:=hsums.1 xs[k].Col (by simp only [hask]; rfl)
        have hcell:cellO r A B xs[k]=(cellW r A B i xs[k].Col).map fun w=>⟨(i:Int),xs[k].Col,w⟩:=by
          unfold cellO; rw [hrow _ (List.getElem_mem hk)]
        have hstep:(xs.take (k+1)).filterMap (cellO r A B)=(xs.take k).filterMap (cellO r A B)++(cellO r A B xs[k]).toList:=by
          rw [List.take_succ_eq_append_getElem hk,List.filterMap_append]
          congr 1
        refine ifP_dec (fun _=>idxP_intro (by omega) (x:=xs[k].Col) (by simp [hk]) (lk2P_intro (fun w hw=>?_) (fun hw=>?_))) (fun h=>by simp at h; omega)
        · refine ifP_pos rfl (appP_intro (by simp; omega) (hny _ ?_))
          rw [hstep,hcell,←hcur,hw,List.append_assoc]; rfl
        · refine ifP_neg rfl (hny _ ?_)
          rw [hstep,hcell,←hcur,hw]; simp
      · subst hm2
        dsimp only
        rw [List.take_length]
        exact ifP_dec (fun h=>by simp at h) (fun _=>hnx')
  · subst hm
    dsimp only
    refine ifP_dec (fun h=>by omega) (fun _=>?_)
    have:=below_all hM
    rw [show rm.toNat=n by omega] at this
    rw [this,Int.toNat_natCast,List.take_length]
    exact hQ
def ltC (a b:Cell):Prop:=ltK (a.Row,a.Col) (b.Row,b.Col)
structure CellP (rows cols:Int) (l:List Cell):Prop where
  inc:l.Pairwise ltC
  inn:∀ c∈l,(0≤c.Row∧c.Row<rows)∧(0≤c.Col∧c.Col<cols)
  ok:∀ c∈l,okW c.Val
  len:l.length≤65536
theorem cells_P {r ra ca rb cb rm cm:Int} {A B M:List Triple} (hM:Canon rm cm M):CellP rm cm (cellsS r A B M):=by
  have hmem:∀ c∈cellsS r A B M,∃ t∈M,c.Row=t.Row∧c.Col=t.Col∧okW c.Val:=fun c hc=>by
    obtain ⟨t,ht,he⟩:=List.mem_filterMap.1 hc
    unfold cellO at he
    cases hw:cellW r A B t.Row t.Col with
    | none=>rw [hw] at he; cases he
    | some w=>rw [hw] at he; cases he; exact ⟨t,ht,rfl,rfl,foldI_okW r _ _ none (fun _ h=>by cases h) w hw⟩
  refine ⟨?_,fun c hc=>?_,fun c hc=>?_,Nat.le_trans (cells_len r A B M) hM.len⟩
  · refine List.Pairwise.filterMap _ (fun a b hab c hc d hd=>?_) hM.srt
    unfold cellO at hc hd
    cases hw:cellW r A B a.Row a.Col with
    | none=>rw [hw] at hc; cases hc
    | some w=>
      cases hu:cellW r A B b.Row b.Col with
      | none=>rw [hu] at hd; cases hd
      | some u=>rw [hw] at hc; rw [hu] at hd; cases hc; cases hd; exact hab
  · obtain ⟨t,ht,h1,h2,_⟩:=hmem c hc
    have:=hM.inn t ht
    unfold inT at this
    omega
  · obtain ⟨t,_,_,_,h⟩:=hmem c hc; exact h
theorem ordC_lt (x y:Cell):or2 (cmpc x.Row y.Row) (cmpc x.Col y.Col)<0↔ltC x y:=by
  unfold ltC ltK or2 cmpc
  simp only
  split <;> split <;> (try split) <;> omega
theorem gemm_order_ok {x y:Cell} {Q:Int→Prop} (h:Q (or2 (cmpc x.Row y.Row) (cmpc x.Col y.Col))):gemm_order x y Q:=by
  unfold gemm_order
  exact cmp_int_ok (cmp_int_ok (or_ok h))
theorem gemm_rises_ok {l:List Cell} {Q:Bool→Prop} (hl:l.length≤1000000) (h:l.Pairwise ltC) (hQ:Q true):gemm_rises l Q:=by
  unfold gemm_rises
  refine scan_intro l.length (by omega) (fun _=>True) trivial (fun i next hi _ hn=>?_) (fun next _=>?_)
  · refine ifP_dec (fun _=>ifP_dec (fun hp=>?_) (fun _=>hn trivial)) (fun h=>by omega)
    have e:w64 ((i:Int) - 1)=((i - 1:Nat):Int):=by rw [w64_id (by omega) (by omega)]; omega
    rw [e]
    refine idxP_nat (by omega) (idxP_nat hi (gemm_order_ok (ifP_dec (fun h0=>?_) (fun _=>hn trivial))))
    have h1:=(ordC_lt l[i - 1] l[i]).2 (List.pairwise_iff_getElem.1 h (i - 1) i (by omega) hi (by omega))
    omega
  · exact ifP_dec (fun h=>by omega) (fun _=>hQ)
def nzC (r:Int) (c:Cell):Option Triple:=if (narS c.Val).1≠zS r then some ⟨c.Row,c.Col,(narS c.Val).1⟩ else none
def doneC (r rows cols:Int) (l:List Cell):Rows×Int:=if l.all (fun c=>(narS c.Val).2) then ofS r rows cols (l.filterMap (nzC r)) else (zR,12)
theorem narS_inI (a:Wide):inI (narS a).1:=by
  unfold narS inI
  split
  · rw [w64_eq]; omega
  · simp
theorem nzC_inI {r:Int} {l:List Cell}:∀ t∈l.filterMap (nzC r),inI t.Val:=fun t ht=>by
  obtain ⟨c,_,he⟩:=List.mem_filterMap.1 ht
  unfold nzC at he
  split at he
  · cases he; exact narS_inI _
  · cases he
theorem done_step {r:Int} {l:List Cell} {i:Nat} (hi:i<l.length):(l.take (i+1)).filterMap (nzC r)=(l.take i).filterMap (nzC r)++(nzC r l[i]).toList:=by
  rw [List.take_succ_eq_append_getElem hi,List.filterMap_append]
  congr 1
theorem gemm_Done_ok {r rows cols:Int} {l:List Cell} {Q:Rows×Int→Prop} (hr:1≤r∧r≤5) (h0:(0≤rows∧rows≤4096)∧(0≤cols∧cols≤4096)) (h:CellP rows cols l) (hQ:Q (doneC r rows cols l)):gemm_Done r rows cols l Q:=by
  unfold gemm_Done joinP
  have hl:=h.len
  refine ring_Is_ok ?_
  rw [decide_eq_true hr]
  refine ifP_neg rfl ?_
  unfold gemm_within
  refine ifP_dec (fun _=>ifP_not (fun hn=>by have:=of_decide_eq_false hn; omega) (fun _=>ifP_dec (fun _=>?_) (fun h=>by omega))) (fun h=>by omega)
  dsimp only
  rw [show (!decide (cols≤4096))=false by simp; omega]
  refine ifP_neg rfl ?_
  have hk:gemm_rises l fun r155=>ifP (!r155) (Q (zR,6)) (ifP (decide (65536<(l.length:Int))) (Q (zR,5)) (loopP (fun (s:(List Triple)×Int) (next454:((List Triple)×Int)→Prop)=>match s with | (s448,s452)=>ifP (decide (s452<(l.length:Int))) (idxP l s452 fun x472=>ring_Narrow r x472.Val fun r486=>ifP (!r486.2) (Q (zR,12)) (ring_Zero r fun r496=>ifP (r486.1 != r496) (appP 24 s448 ([({ Row:=x472.Row,Col:=x472.Col,Val:=r486.1 }:Triple)]) fun _=>next454 ((s448++([({ Row:=x472.Row,Col:=x472.Col,Val:=r486.1 }:Triple)])),w64 (s452+1))) (next454 (s448,w64 (s452+1))))) (csr_Of r rows cols s448 fun r512=>Q (r512.1,r512.2))) (([]:List Triple),0))):=by
    refine gemm_rises_ok (by omega) h.inc (ifP_neg rfl (ifP_dec (fun h=>by omega) (fun _=>?_)))
    refine range_intro (fun (s:List Triple) i=>(s,i)) 0 l.length (by omega) (fun i s=>s=(l.take i).filterMap (nzC r)∧∀ q (hq:q<l.length),q<i→(narS l[q].Val).2=true) (by omega) ⟨rfl,fun q hq h=>by omega⟩ (fun i s next _ hi hm hn=>?_) (fun s next hm=>?_)
    · obtain ⟨rfl,hok⟩:=hm
      have hst:=done_step (r:=r) hi
      have hlk:=List.length_filterMap_le (nzC r) (l.take i)
      rw [List.length_take] at hlk
      refine ifP_dec (fun _=>idxP_nat hi (narrow_ok (h.ok _ (List.getElem_mem hi)) ?_)) (fun h=>by omega)
      cases hb:(narS l[i].Val).2 with
      | false=>
        refine ifP_pos rfl ?_
        unfold doneC at hQ
        rw [if_neg (fun ha=>by have:=List.all_eq_true.1 ha l[i] (List.getElem_mem hi); rw [hb] at this; cases this)] at hQ
        exact hQ
      | true=>
        have hok':∀ q (hq:q<l.length),q<i+1→(narS l[q].Val).2=true:=fun q hq hqi=>by
          by_cases e:q=i
          · subst e; exact hb
          · exact hok q hq (by omega)
        refine ifP_neg rfl (ring_Zero_ok (ifP_ne (fun hz=>appP_intro (by simp; omega) (hn _ ⟨?_,hok'⟩)) (fun hz=>hn _ ⟨?_,hok'⟩)))
        · rw [hst]; unfold nzC; rw [if_pos hz]; rfl
        · rw [hst]; unfold nzC; rw [if_neg (fun h=>h hz)]; simp
    · obtain ⟨rfl,hok⟩:=hm
      refine ifP_dec (fun h=>by omega) (fun _=>?_)
      rw [List.take_length]
      have hlk:=List.length_filterMap_le (nzC r) l
      unfold doneC at hQ
      rw [if_pos (List.all_eq_true.2 fun c hc=>by obtain ⟨q,hq,rfl⟩:=List.getElem_of_mem hc; exact hok q hq hq)] at hQ
      exact Of_ok (by omega) nzC_inI hQ
  unfold slices_ContainsFunc_api_Cell_api_Cell_72c slices_IndexFunc_api_Cell_api_Cell_05b gemm_Done_1_bab gemm_within
  have e1:w64 (rows - 1)=rows - 1:=w64_id (by omega) (by omega)
  have e2:w64 (cols - 1)=cols - 1:=w64_id (by omega) (by omega)
  rw [e1,e2]
  refine scan_intro l.length (by omega) (fun _=>True) trivial (fun i next hi _ hn=>?_) (fun next _=>?_)
  · have hc:=h.inn _ (List.getElem_mem hi)
    refine ifP_dec (fun _=>idxP_nat hi (ifP_dec (fun _=>ifP_not (fun hb=>by have:=of_decide_eq_false hb; omega) (fun _=>ifP_dec (fun _=>?_) (fun h=>by omega))) (fun h=>by omega))) (fun h=>by omega)
    dsimp only
    rw [show (!decide ((l[i]).Col≤cols - 1))=false by simp; omega]
    exact ifP_neg rfl (hn trivial)
  · exact ifP_dec (fun h=>by omega) (fun _=>ifP_neg (by decide) hk)
def timesS (r ra ca rb cb rm cm:Int) (A B M:List Triple):Rows×Int:=
  if (cellsR r ra ca rb cb rm cm A B M).2≠0 then (zR,(cellsR r ra ca rb cb rm cm A B M).2) else doneC r ra cb (cellsR r ra ca rb cb rm cm A B M).1
theorem cellsR_zero {r ra ca rb cb rm cm:Int} {A B M:List Triple} (hM:Canon rm cm M) (h:(cellsR r ra ca rb cb rm cm A B M).2=0):(1≤r∧r≤5)∧CellP ra cb (cellsR r ra ca rb cb rm cm A B M).1:=by
  unfold cellsR at h ⊢
  by_cases h1:1≤r∧r≤5
  · rw [if_neg (fun h=>h h1)] at h ⊢
    by_cases h2:ca≠rb∨rm≠ra∨cm≠cb
    · rw [if_pos h2] at h; cases h
    · rw [if_neg h2]
      have e1:rm=ra:=by omega
      have e2:cm=cb:=by omega
      subst e1 e2
      exact ⟨h1,cells_P (ra:=rm) (ca:=ca) (rb:=rb) (cb:=cm) hM⟩
  · rw [if_pos h1] at h; cases h
theorem gemm_Times_ok {r ra ca rb cb rm cm:Int} {A B M:List Triple} {Q:Rows×Int→Prop} (hA:Canon ra ca A) (hB:Canon rb cb B) (hM:Canon rm cm M) (hvA:∀ t∈A,inI t.Val) (hvB:∀ t∈B,inI t.Val)
    (hQ:Q (timesS r ra ca rb cb rm cm A B M)):gemm_Times r (builtS ra ca A) (builtS rb cb B) (builtS rm cm M) Q:=by
  unfold gemm_Times
  unfold timesS at hQ
  refine gemm_Cells_ok hA hB hM hvA hvB (ifP_ne (fun h=>by rwa [if_pos h] at hQ) (fun h=>?_))
  rw [if_neg (fun h'=>h' h)] at hQ
  have hz:=cellsR_zero hM h
  refine gemm_sure_ok (by simp) (fun a ha=>?_) (idxP_intro (by omega) rfl (idxP_intro (by omega) rfl (gemm_Done_ok hz.1 ⟨⟨hA.r0,hA.r1⟩,hB.c0,hB.c1⟩ hz.2 hQ)))
  simp only [List.mem_cons,List.not_mem_nil,or_false] at ha
  rcases ha with rfl | rfl
  · exact ⟨hA.sml,hA.right⟩
  · exact ⟨hB.sml,hB.right⟩
theorem row_look {rows cols:Int} {T:List Triple} (h:Canon rows cols T) {i j a:Int} (hi:0≤i):lkI (rowI T i) j=some a↔(⟨i,j,a⟩:Triple)∈T:=by
  unfold rowI
  rw [lkI_iff (seg_inc h.srt i.toNat),List.mem_map]
  unfold segS
  constructor
  · rintro ⟨t,ht,he⟩
    obtain ⟨h1,h2⟩:=List.mem_filter.1 ht
    have h3:=of_decide_eq_true h2
    unfold itS at he
    obtain ⟨tr,tc,tv⟩:=t
    simp only [Item.mk.injEq] at he h3
    obtain ⟨rfl,rfl⟩:=he
    rw [show i=tr by omega]
    exact h1
  · intro ht
    exact ⟨_,List.mem_filter.2 ⟨ht,by simp; omega⟩,rfl⟩
theorem cell_row {r rows cols:Int} {A B:List Triple} (h:Canon rows cols A) {i:Int} (hi:0≤i) (c:Int):cellW r A B i c=rowW r cols.toNat (lkI (rowI A i)) (bAt B c):=by
  unfold cellW
  refine row_fold (seg_inc h.srt _) (fun x hx=>?_)
  obtain ⟨t,ht,rfl⟩:=List.mem_map.1 hx
  have:=h.inn t (List.mem_filter.1 ht).1
  unfold inT at this
  unfold itS
  dsimp only
  omega
def fullR (i m:Nat):List Triple:=(List.range m).map fun j:Nat=>(⟨i,j,1⟩:Triple)
def fullT (n m:Nat):List Triple:=(List.range n).flatMap fun i:Nat=>fullR i m
theorem fullR_succ (i m:Nat):fullR i (m+1)=fullR i m++[⟨i,m,1⟩]:=by unfold fullR; rw [List.range_succ,List.map_append]; rfl
theorem fullT_succ (n m:Nat):fullT (n+1) m=fullT n m++fullR n m:=by unfold fullT; rw [List.range_succ,List.flatMap_append]; simp
theorem fullT_len (m:Nat):∀ n:Nat,(fullT n m).length=n*m
  | 0=>by simp [fullT]
  | n+1=>by rw [fullT_succ,List.length_append,fullT_len m n,fullR,List.length_map,List.length_range,Nat.succ_mul]
theorem fullT_mem {n m:Nat} {t:Triple} (h:t∈fullT n m):inT n m t∧t.Val=1:=by
  obtain ⟨i,hi,h⟩:=List.mem_flatMap.1 h
  obtain ⟨j,hj,rfl⟩:=List.mem_map.1 h
  rw [List.mem_range] at hi hj
  unfold inT
  refine ⟨⟨?_,?_,?_,?_⟩,rfl⟩ <;> dsimp only <;> omega
theorem fullT_canon {n m:Nat} (hn:n≤200) (hm:m≤200):Canon n m (fullT n m) where
  r0:=by omega
  r1:=by omega
  c0:=by omega
  c1:=by omega
  len:=by
    rw [fullT_len]
    have:=Nat.mul_le_mul hn hm
    omega
  srt:=by
    unfold Srt fullT
    rw [List.pairwise_flatMap]
    refine ⟨fun i _=>?_,?_⟩
    · unfold fullR
      rw [List.pairwise_map]
      refine List.Pairwise.imp (fun {a b} hab=>?_) (List.pairwise_lt_range (n:=m))
      unfold ltK key
      dsimp only
      omega
    · refine List.Pairwise.imp (fun {a b} hab x hx y hy=>?_) (List.pairwise_lt_range (n:=n))
      obtain ⟨u,hu,rfl⟩:=List.mem_map.1 hx
      obtain ⟨v,hv,rfl⟩:=List.mem_map.1 hy
      unfold ltK key
      dsimp only
      omega
  inn t ht:=(fullT_mem ht).1
end Go.Proofs.YtaefnmlbnkmahaaGreat
