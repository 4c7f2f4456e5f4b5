import Derived.Test.YtpackolbhcmomaaGreatOK
import Derived.Test.YtpackolbhcmomaaGreatCsrI
namespace Go.Proofs.YtpackolbhcmomaaGreat
open Go Go.Fw
set_option linter.unusedVariables false
set_option linter.unusedSimpArgs false
def colc (c d:Int) (t:Triple):Bool:=decide (c≤t.Col∧t.Col<d)
def shf (l c:Int) (t:Triple):Triple:=⟨t.Row - l,t.Col - c,t.Val⟩
theorem cut_step {ts:List Triple} (h:Srt ts) (l c d:Int) (v:Nat) (hv:l≤v):cutT l ((v:Int)+1) c d ts=cutT l v c d ts++((segS ts v).filter (colc c d)).map (shf l c):=by
  unfold cutT
  rw [show (fun t:Triple=>(⟨t.Row - l,t.Col - c,t.Val⟩:Triple))=shf l c from rfl,←List.map_append]
  congr 1
  refine srt_ext (List.Pairwise.filter _ h) (List.pairwise_append.2 ⟨List.Pairwise.filter _ h,List.Pairwise.filter _ (List.Pairwise.filter _ h),fun a ha b hb=>?_⟩) fun t=>?_
  · have h1:=(List.mem_filter.1 ha).2
    have h2:=(List.mem_filter.1 (List.mem_filter.1 hb).1).2
    simp only [decide_eq_true_eq] at h1 h2
    unfold ltK key
    simp only
    omega
  · unfold segS colc
    simp only [List.mem_append,List.mem_filter,decide_eq_true_eq]
    constructor
    · rintro ⟨h1,h2⟩
      by_cases e:t.Row=v
      · exact .inr ⟨⟨h1,e⟩,h2.2⟩
      · exact .inl ⟨h1,by omega,h2.2⟩
    · rintro (⟨h1,h2⟩ | ⟨⟨h1,h2⟩,h3⟩)
      · exact ⟨h1,by omega,h2.2⟩
      · exact ⟨h1,by omega,h3⟩
theorem cut_nil {ts:List Triple} {l h c d:Int} (hh:h≤l):cutT l h c d ts=[]:=by
  unfold cutT
  rw [List.filter_eq_nil_iff.2]; · rfl
  intro t ht
  simp only [decide_eq_true_eq]; omega
theorem csr_cut_ok {a:Rows} {rows cols:Int} {ts:List Triple} {p q:Int×Int} {Q:Rows→Prop} (hl:small a) (ha:sureS a=builtS rows cols ts) (h:Canon rows cols ts) (hQ:Q (cutS rows cols ts p q)):csr_Cut a p q Q:=by
  unfold csr_Cut
  have hlen:=h.len
  have hr1:=h.r1; have hc1:=h.c1
  have b1:=ext_le p.1 p.2 rows h.r0 h.r1
  have b2:=ext_le q.1 q.2 cols h.c0 h.c1
  refine sure_ok hl ?_
  rw [ha]
  refine bounds_ok h.r0 h.r1 (bounds_ok h.c0 h.c1 ?_)
  show loopP _ _
  have hcan:=cut_canon h p q
  unfold cutS at hQ
  have hrl:(builtS rows cols ts).Rows=rows:=rfl
  have hcl:(builtS rows cols ts).Cols=cols:=rfl
  rw [hcl,hrl]
  generalize hL:cLo p.1=L at *
  generalize hH:cHi p.2 rows=H at *
  generalize hC:cLo q.1=C at *
  generalize hD:cHi q.2 cols=D at *
  have eE:ext p.1 p.2 rows=if L<H then H - L else 0:=by unfold ext; rw [hL,hH]
  have eF:ext q.1 q.2 cols=if C<D then D - C else 0:=by unfold ext; rw [hC,hD]
  generalize ext p.1 p.2 rows=E at *
  generalize ext q.1 q.2 cols=F at *
  dsimp only
  obtain ⟨n,hn⟩:∃ n:Nat,E=n:=⟨E.toNat,by omega⟩
  rw [hn]
  refine range_intro (fun (s:List Triple) i=>(s,i)) 0 n (by omega) (fun i s=>s=cutT L (L+(i:Nat)) C D ts) (by omega) (s0:=[]) (by rw [cut_nil (by omega)]) (fun i s next _ hi hm hnx=>?_) (fun s next hm=>?_)
  · subst hm
    dsimp only
    have hLH:L<H∧E=H - L:=by
      by_cases e:L<H
      · rw [if_pos e] at eE; exact ⟨e,eE⟩
      · rw [if_neg e] at eE; omega
    obtain ⟨v,hv⟩:∃ v:Nat,L+(i:Int)=v:=⟨(L+i).toNat,by omega⟩
    have e1:w64 (L+(i:Int))=v:=by rw [w64_id (by omega) (by omega)]; exact hv
    rw [e1]
    refine ifP_dec (fun _=>?_) (fun h=>by omega)
    refine csr_row_ok h.sml (sure_built h) h ?_
    have erow:rowS rows ts v=(segS ts v).map itS:=by unfold rowS; rw [if_pos (by omega),Int.toNat_natCast]
    rw [erow]
    have hsl:=seg_len_le ts v
    have hrow:∀ t∈segS ts v,t.Row=v:=fun t ht=>by simpa using (List.mem_filter.1 ht).2
    have hin:∀ t∈segS ts v,inT rows cols t:=fun t ht=>h.inn t (List.mem_filter.1 ht).1
    have hcut:=cut_step h.srt L C D v (by omega)
    rw [show (v:Int)+1=L+((i+1:Nat):Int) by omega] at hcut
    rw [hcut] at hnx
    have hacc:(cutT L v C D ts).length≤ts.length:=by
      unfold cutT
      rw [List.length_map]
      exact List.length_filter_le _ _
    rw [hv]
    generalize cutT L v C D ts=acc at hnx hacc
    generalize segS ts v=xs at *
    refine range_intro (fun (s:List Triple) i=>(s,i)) 0 xs.length (by omega) (fun j s=>s=acc++((xs.take j).filter (colc C D)).map (shf L C)) (by omega) (by simp) (fun j s nx _ hj hm hnj=>?_) (fun s nx hm=>?_)
    · subst hm
      dsimp only
      refine ifP_dec (fun _=>?_) (fun h=>by simp at h; omega)
      have hm:=List.getElem_mem hj
      have hi1:=hin _ hm
      have hr:=hrow _ hm
      unfold inT at hi1
      have hst:(xs.take (j+1)).filter (colc C D)=(xs.take j).filter (colc C D)++if colc C D xs[j]=true then [xs[j]] else []:=by
        rw [List.take_succ_eq_append_getElem hj,List.filter_append,List.filter_cons,List.filter_nil]
      refine idxP_intro (by omega) (x:=itS xs[j]) (by simp [hj]) ?_
      have eAt:(itS xs[j]).At=xs[j].Col:=rfl
      have eVal:(itS xs[j]).Val=xs[j].Val:=rfl
      rw [eAt,eVal]
      refine join_intro (fun b=>b=colc C D xs[j]) ?_ fun k hk=>?_
      · rintro _ rfl
        refine ⟨fun hc=>appP_intro ?_ (hnj _ ?_),fun hc=>hnj _ ?_⟩
        · have:=List.length_filter_le (colc C D) (xs.take j)
          have h4:(xs.take j).length≤xs.length:=by simp; omega
          simp only [List.length_append,List.length_map,List.length_singleton]
          omega
        · have hc':C≤xs[j].Col∧xs[j].Col<D:=by simpa [colc] using hc
          rw [hst,if_pos hc,List.map_append,List.append_assoc,w64_id (x:=xs[j].Col - C) (by omega) (by omega)]
          have:(⟨(i:Int),xs[j].Col - C,xs[j].Val⟩:Triple)=shf L C xs[j]:=by unfold shf; rw [show (i:Int)=xs[j].Row - L by omega]
          rw [this]; rfl
        · rw [hst,if_neg (by simp [hc]),List.append_nil]
      · refine ifP_dec (fun hc=>hk _ ?_) (fun hc=>hk _ ?_)
        · unfold colc
          apply decide_eq_decide.2
          rw [eF,w64_id (x:=xs[j].Col - C) (by omega) (by omega)]
          split <;> omega
        · unfold colc; symm; apply decide_eq_false; omega
    · subst hm
      dsimp only
      refine ifP_dec (fun h=>by simp at h) (fun _=>hnx _ ?_)
      rw [List.take_length]
  · subst hm
    dsimp only
    refine ifP_dec (fun h=>by omega) (fun _=>?_)
    have e:cutT L (L+(n:Int)) C D ts=cutT L H C D ts:=by
      by_cases e:L<H
      · rw [if_pos e] at eE; rw [show L+(n:Int)=H by omega]
      · rw [if_neg e] at eE; rw [cut_nil (by omega),cut_nil (by omega)]
    rw [e]
    rw [hn] at hcan hQ
    refine built_ok (by omega) (by omega) (by have:=hcan.len; omega) (fun t ht=>?_) hQ
    have:=hcan.inn t ht
    unfold inT at this
    exact ⟨this.1,this.2.1⟩
theorem fin_canon {r rows cols:Int} {kvs:List (Key×Int)} (h:0≤rows∧rows≤4096∧0≤cols∧cols≤4096) (hl:kvs.length≤65536) (hk:∀ t∈kvs,inT rows cols (mkT t.1 0)) (hv:∀ t∈kvs,inI t.2):Canon rows cols (finS (SC r kvs) mkT).1:=by
  refine ⟨h.1,h.2.1,h.2.2.1,h.2.2.2,?_,?_,?_⟩
  · exact Nat.le_trans (fin_len _) (by have:=(SC_prop r kvs hv).1; omega)
  · unfold finS
    split
    · unfold Srt
      rw [List.pairwise_map]
      exact SC_srt r kvs
    · exact .nil
  · intro t ht
    unfold finS at ht
    split at ht
    · obtain ⟨p,hp,rfl⟩:=List.mem_map.1 ht
      obtain ⟨x,hx,e⟩:=SC_keys hp
      have:=hk x hx
      unfold inT mkT at *
      rw [←e]
      exact this
    · simp at ht
theorem inR_i64 {x:Int} (h:inR .i64 x):inI x:=by have:=bounds_i64 h; unfold inI; omega
theorem few_ok {ts:List Triple} {Q:List Triple→Prop} (hQ:∀ ys:List Triple,ys.length≤60→(∀ t∈ys,t∈ts)→Q ys):law07_Few ts Q:=by
  unfold law07_Few
  refine ifP_dec (fun h=>⟨by decide,by decide,by omega,hQ _ ?_ fun t ht=>?_⟩) (fun h=>hQ _ (by omega) fun t ht=>ht)
  · simp; omega
  · exact List.mem_of_mem_take (List.mem_of_mem_drop ht)
theorem small_zR:small zR:=⟨by decide,by decide,by decide⟩
theorem zR_wrong:¬RightP zR:=fun h=>by have:=h.sl; simp [zR] at this
theorem of_cases {r rows cols:Int} {ts:List Triple} (hv:∀ t∈ts,inI t.Val):((ofS r rows cols ts).1=zR∧(ofS r rows cols ts).2≠0)∨∃ T,Canon rows cols T∧ofS r rows cols ts=(builtS rows cols T,0)∧(1≤r∧r≤5)∧(∀ t∈ts,inT rows cols t)∧ts.length≤65536∧(0≤rows∧rows≤4096∧0≤cols∧cols≤4096)∧T=(finS (SC r (ts.map kvT)) mkT).1∧(finS (SC r (ts.map kvT)) mkT).2=0:=by
  unfold ofS
  split
  · left; exact ⟨rfl,by simp⟩
  split
  · left; exact ⟨rfl,by simp⟩
  split
  · left; exact ⟨rfl,by simp⟩
  split
  · left; exact ⟨rfl,by simp⟩
  split
  · rename_i h; left; exact ⟨rfl,h⟩
  · rename_i h1 h2 h3 h4 h5
    right
    have h2:=Decidable.of_not_not h2
    have h4:=Decidable.of_not_not h4
    refine ⟨_,fin_canon h2 (by simpa using h3) (fun t ht=>?_) (fun t ht=>?_),rfl,Decidable.of_not_not h1,h4,by omega,h2,rfl,Decidable.of_not_not h5⟩
    · obtain ⟨x,hx,rfl⟩:=List.mem_map.1 ht
      exact h4 x hx
    · obtain ⟨x,hx,rfl⟩:=List.mem_map.1 ht
      exact hv x hx
theorem nar_ofI {v:Int} (h:inI v):narS (ofI v)=(v,true):=by
  unfold narS ofI
  unfold inI at h
  simp only
  rw [if_pos]
  · rw [w64_eq]; congr 1; omega
  · split <;> omega
theorem SC_one (ts:List (Key×Int)) (hv:∀ t∈ts,inI t.2):∀ p∈SC 1 ts,∃ v,inI v∧p.2=ofI v:=by
  suffices ∀ (ts:List (Key×Int)) (l:List (Key×Wide)),(∀ t∈ts,inI t.2)→(∀ p∈l,∃ v,inI v∧p.2=ofI v)→∀ p∈ts.foldl (fun l t=>ins 1 t.1 (ofI t.2) l) l,∃ v,inI v∧p.2=ofI v from this ts [] hv (by simp)
  have hins:∀ (k:Key) (v:Int),inI v→∀ l:List (Key×Wide),(∀ p∈l,∃ v,inI v∧p.2=ofI v)→∀ p∈ins 1 k (ofI v) l,∃ v,inI v∧p.2=ofI v:=by
    intro k v hv l
    induction l with
    | nil=>intro _ p hp; simp [ins] at hp; exact ⟨v,hv,by rw [hp]⟩
    | cons q l ih=>
      intro h p hp
      unfold ins at hp
      split at hp
      · rcases List.mem_cons.1 hp with rfl | hp
        · exact h _ (by simp)
        · exact ih (fun x hx=>h x (by simp [hx])) p hp
      · split at hp
        · rcases List.mem_cons.1 hp with rfl | hp
          · obtain ⟨u,hu,e⟩:=h q (by simp)
            unfold addW
            simp only [true_or,if_true]
            split
            · exact ⟨u,hu,e⟩
            · exact ⟨v,hv,rfl⟩
          · exact h p (by simp [hp])
        · rcases List.mem_cons.1 hp with rfl | hp
          · exact ⟨v,hv,rfl⟩
          · exact h p hp
  intro ts
  induction ts with
  | nil=>intro l _ h; exact h
  | cons t ts ih=>intro l ht h; exact ih _ (fun x hx=>ht x (by simp [hx])) (hins _ _ (ht t (by simp)) l h)
theorem fin_one {α:Type} {mk:Key→Int→α} {ts:List (Key×Int)} (hv:∀ t∈ts,inI t.2):finS (SC 1 ts) mk=((SC 1 ts).map (fun p=>mk p.1 (narS p.2).1),0):=by
  refine fin_perm (m:=[]) (.refl _) fun p hp=>?_
  obtain ⟨v,h1,h2⟩:=SC_one ts hv p hp
  rw [h2,nar_ofI h1]
theorem nar_inI (a:Wide):inI (narS a).1:=by
  unfold narS inI
  split
  · simp only [w64_eq]; omega
  · simp
theorem ins_last {r:Int} {k:Key} {v:Wide} {l:List (Key×Wide)} (h:∀ p∈l,ltK p.1 k):ins r k v l=l++[(k,v)]:=by
  induction l with
  | nil=>rfl
  | cons p l ih=>unfold ins; rw [if_pos (h p (by simp)),ih fun q hq=>h q (by simp [hq])]; rfl
theorem SC_self {r:Int} {T:List Triple} (h:Srt T):SC r (T.map kvT)=T.map fun t=>(key t,ofI t.Val):=by
  suffices ∀ i,i≤T.length→SC r ((T.take i).map kvT)=(T.take i).map fun t=>(key t,ofI t.Val) by
    have:=this T.length (Nat.le_refl _)
    rwa [List.take_length] at this
  intro i
  induction i with
  | zero=>intro _; rfl
  | succ i ih=>
    intro hi
    rw [take_map (show i<T.length by omega),take_map (show i<T.length by omega),SC_snoc,ih (by omega),ins_last]
    · rfl
    · intro p hp
      obtain ⟨t,ht,rfl⟩:=List.mem_map.1 hp
      obtain ⟨j,hj,rfl⟩:=List.getElem_of_mem ht
      simp only [List.length_take] at hj
      rw [List.getElem_take]
      exact List.pairwise_iff_getElem.1 h j i (by omega) (by omega) (by omega)
theorem nar_of {v:Int} (h:inI v):narS (ofI v)=(v,true):=by
  unfold narS ofI
  unfold inI at h
  simp only
  rw [if_pos]
  · rw [w64_eq]; congr 1; omega
  · split <;> omega
theorem of_self {r rows cols:Int} {T:List Triple} (h:Canon rows cols T) (hv:∀ t∈T,inI t.Val) (hr:1≤r∧r≤5):ofS r rows cols T=(builtS rows cols T,0):=by
  have hf:finS (SC r (T.map kvT)) mkT=(T,0):=by
    rw [SC_self h.srt]
    rw [fin_perm (m:=[]) (.refl _) (fun p hp=>by obtain ⟨t,ht,rfl⟩:=List.mem_map.1 hp; rw [nar_of (hv t ht)])]
    congr 1
    rw [List.map_map]
    refine (List.map_congr_left fun t ht=>?_).trans (List.map_id T)
    simp only [Function.comp_apply,nar_of (hv t ht)]
    rfl
  have h1:=h.r0; have h2:=h.r1; have h3:=h.c0; have h4:=h.c1; have h5:=h.len
  unfold ofS
  rw [if_neg (fun h=>h hr),if_neg (fun h=>h ⟨h1,h2,h3,h4⟩),if_neg (by omega),if_neg (fun h'=>h' h.inn),hf,if_neg (by simp)]
theorem turn_turn {rows cols:Int} {T:List Triple} (h:Canon rows cols T):turnT rows (turnT cols T)=T:=by
  refine srt_ext (turn_srt _ (turn_srt _ h.srt)) h.srt fun t=>?_
  rw [turn_mem (turn_canon h),turn_mem h]; rfl
theorem cut_mem {l h c d:Int} {T:List Triple} (t:Triple):t∈cutT l h c d T↔(⟨t.Row+l,t.Col+c,t.Val⟩:Triple)∈T∧(0≤t.Row∧t.Row+l<h)∧0≤t.Col∧t.Col+c<d:=by
  unfold cutT
  simp only [List.mem_map,List.mem_filter,decide_eq_true_eq]
  constructor
  · rintro ⟨u,⟨hu,hc⟩,rfl⟩
    simp only
    rw [show u.Row - l+l=u.Row by omega,show u.Col - c+c=u.Col by omega]
    exact ⟨hu,by omega,by omega,by omega⟩
  · rintro ⟨hm,hc⟩
    refine ⟨_,⟨hm,?_⟩,?_⟩
    · simp only; omega
    · cases t; simp only [Triple.mk.injEq]; exact ⟨by omega,by omega,trivial⟩
theorem incr_ext {l l':List Int} (h:l.Pairwise (· < ·)) (h':l'.Pairwise (· < ·)) (he:∀ x,x∈l↔x∈l'):l=l':=by
  have hn:∀ {l:List Int},l.Pairwise (· < ·)→l.Nodup:=fun h=>List.nodup_iff_pairwise_ne.2 (h.imp fun hab=>by omega)
  have hp:=(List.perm_ext_iff_of_nodup (hn h) (hn h')).2 he
  exact hp.eq_of_pairwise (fun a b _ _ h1 h2=>by omega) h h'
theorem incr_at {l:List Int} (h:l.Pairwise (· < ·)) {i j:Nat} (hij:i<j) (hj:j<l.length):at0 l i<at0 l j:=by
  unfold at0
  have:=List.pairwise_iff_getElem.1 h i j (by omega) hj hij
  simpa [List.getD_eq_getElem?_getD,hj,show i<l.length by omega] using this
theorem mem_at0 {l:List Int} {x:Int} (h:x∈l):∃ i:Nat,i<l.length∧at0 l i=x:=by
  obtain ⟨i,hi,rfl⟩:=List.getElem_of_mem h
  exact ⟨i,hi,by unfold at0; simp [List.getD_eq_getElem?_getD,hi]⟩
def anyR (T:List Triple) (c:Nat):Bool:=T.any fun t=>decide (t.Row=(c:Int))
def atS (n:Nat) (T:List Triple):List Int:=((List.range n).filter (anyR T)).map fun c:Nat=>(c:Int)
theorem atS_incr (n:Nat) (T:List Triple):(atS n T).Pairwise (· < ·):=by
  unfold atS
  rw [List.pairwise_map]
  exact List.Pairwise.imp (fun {a b} h=>by omega) ((List.pairwise_lt_range (n:=n)).filter _)
theorem atS_mem {n:Nat} {T:List Triple} {x:Int}:x∈atS n T↔(0≤x∧x<n)∧∃ t∈T,t.Row=x:=by
  unfold atS anyR
  simp only [List.mem_map,List.mem_filter,List.mem_range,List.any_eq_true,decide_eq_true_eq]
  constructor
  · rintro ⟨c,⟨hc,t,ht,e⟩,rfl⟩; exact ⟨⟨by omega,by omega⟩,t,ht,e⟩
  · rintro ⟨⟨h0,h1⟩,t,ht,e⟩; exact ⟨x.toNat,⟨by omega,t,ht,by omega⟩,by omega⟩
theorem atS_len (n:Nat) (T:List Triple):(atS n T).length≤n:=by
  unfold atS
  rw [List.length_map]
  exact Nat.le_trans (List.length_filter_le _ _) (by simp)
def stS (n:Nat) (T:List Triple):List Int:=0 :: (atS n T).map fun x=>below T (x.toNat+1)
def colS (rows cols:Int) (T:List Triple):Columns:=⟨rows,cols,atS cols.toNat T,stS cols.toNat T,T.map (·.Col),T.map (·.Val)⟩
theorem st_len (n:Nat) (T:List Triple):(stS n T).length=(atS n T).length+1:=by simp [stS]
theorem st_hi {n:Nat} {T:List Triple} {j:Nat} (hj:j<(atS n T).length):at0 (stS n T) ((j:Int)+1)=below T ((at0 (atS n T) j).toNat+1):=by
  unfold stS at0
  rw [show ((j:Int)+1).toNat=j+1 by omega]
  simp [List.getD_eq_getElem?_getD,hj]
theorem at_in {n:Nat} {T:List Triple} {j:Nat} (hj:j<(atS n T).length):(0≤at0 (atS n T) j∧at0 (atS n T) j<n)∧∃ t∈T,t.Row=at0 (atS n T) j:=
  atS_mem.1 (at0_mem (by omega) (by omega))
theorem row_at {rows cols:Int} {T:List Triple} (h:Canon cols rows T) {t:Triple} (ht:t∈T):∃ q:Nat,q<(atS cols.toNat T).length∧at0 (atS cols.toNat T) q=t.Row:=by
  have hin:=h.inn t ht
  unfold inT at hin
  exact mem_at0 (atS_mem.2 ⟨⟨by omega,by omega⟩,t,ht,rfl⟩)
theorem st_lo {rows cols:Int} {T:List Triple} (h:Canon cols rows T) {j:Nat} (hj:j<(atS cols.toNat T).length):at0 (stS cols.toNat T) j=below T (at0 (atS cols.toNat T) j).toNat:=by
  have hinc:=atS_incr cols.toNat T
  have h0:=(at_in hj).1
  cases j with
  | zero=>
    rw [show at0 (stS cols.toNat T) ((0:Nat):Int)=0 from rfl]
    unfold below
    rw [List.countP_eq_zero.2]; · rfl
    intro t ht
    obtain ⟨q,hq,e⟩:=row_at h ht
    simp only [decide_eq_true_eq]
    rw [←e]
    by_cases e0:q=0
    · subst e0; omega
    · have:=incr_at hinc (show 0<q by omega) hq; omega
  | succ i=>
    rw [show ((i+1:Nat):Int)=(i:Int)+1 by omega,st_hi (show i<(atS cols.toNat T).length by omega)]
    unfold below
    congr 1
    apply List.countP_congr
    intro t ht
    simp only [decide_eq_true_eq]
    have hlt:=incr_at hinc (show i<i+1 by omega) hj
    rw [show ((i+1:Nat):Int)=(i:Int)+1 by omega] at hlt h0
    have h1:=(at_in (show i<(atS cols.toNat T).length by omega)).1
    constructor
    · intro hh; omega
    · intro hh
      obtain ⟨q,hq,e⟩:=row_at h ht
      have hqi:q≤i:=by
        rcases Nat.lt_or_ge i q with hc | hc
        · exfalso
          by_cases e1:q=i+1
          · subst e1; rw [show ((i+1:Nat):Int)=(i:Int)+1 by omega] at e; omega
          · have:=incr_at hinc (show i+1<q by omega) hq
            rw [show ((i+1:Nat):Int)=(i:Int)+1 by omega] at this; omega
        · exact hc
      by_cases e1:q=i
      · subst e1; omega
      · have:=incr_at hinc (show q<i by omega) (by omega); omega
theorem Canon.colseg {rows cols:Int} {T:List Triple} (h:Canon cols rows T) {j:Nat} (hj:j<(atS cols.toNat T).length) :
    ∃ x lo hi:Nat,at0 (atS cols.toNat T) j=x∧(x:Int)<cols∧at0 (stS cols.toNat T) j=lo∧at0 (stS cols.toNat T) ((j:Int)+1)=hi∧lo<hi∧Seg T x lo hi:=by
  obtain ⟨⟨h0,h1⟩,t,ht,e⟩:=at_in hj
  obtain ⟨x,hx⟩:∃ x:Nat,at0 (atS cols.toNat T) j=x:=⟨(at0 (atS cols.toNat T) j).toNat,by omega⟩
  obtain ⟨lo,hi,s⟩:=h.seg x
  have hc:=h.r0
  have hlo:at0 (stS cols.toNat T) j=lo:=by rw [st_lo h hj,hx,Int.toNat_natCast,s.lo]
  have hhi:at0 (stS cols.toNat T) ((j:Int)+1)=hi:=by rw [st_hi hj,hx,Int.toNat_natCast,s.hi]
  refine ⟨x,lo,hi,hx,by omega,hlo,hhi,?_,s⟩
  obtain ⟨p,hp,rfl⟩:=List.getElem_of_mem ht
  have:=(h.srt.at hp (i:=x)).1 (by omega)
  have h1:=s.lo; have h2:=s.hi
  omega
def ColR (c:Columns) (i:Nat):Prop:=∀ j:Nat,at0 c.Start i≤j→(j:Int)<at0 c.Start ((i:Int)+1)→0≤at0 c.Row j∧at0 c.Row j<c.Rows∧(at0 c.Start i<j→at0 c.Row ((j:Int) - 1)<at0 c.Row j)
structure ColP (c:Columns):Prop where
  r0:0≤c.Rows
  r1:c.Rows≤4096
  c0:0≤c.Cols
  c1:c.Cols≤4096
  sl:(c.Start.length:Int)=(c.At.length:Int)+1
  vl:c.Val.length=c.Row.length
  cl:c.Row.length≤65536
  s0:at0 c.Start 0=0
  sn:at0 c.Start c.At.length=c.Row.length
  at_:∀ i:Nat,i<c.At.length→0≤at0 c.At i∧at0 c.At i<c.Cols∧(0<i→at0 c.At ((i:Int) - 1)<at0 c.At i)
  up:∀ i:Nat,i<c.At.length→at0 c.Start i<at0 c.Start ((i:Int)+1)
  row:∀ i:Nat,i<c.At.length→ColR c i
noncomputable instance (c:Columns):Decidable (ColP c):=Classical.propDecidable _
def smallC (c:Columns):Prop:=c.At.length≤1000000000∧c.Start.length≤1000000000∧c.Row.length≤1000000000000
theorem dcsc_within_ok {x y:Int} {Q:Bool→Prop} (hQ:Q (decide (0≤x∧x≤y))):dcsc_within x y Q:=by
  unfold dcsc_within
  refine ifP_dec (fun h=>?_) (fun h=>?_)
  · rwa [show decide (x≤y)=decide (0≤x∧x≤y) by apply decide_eq_decide.2; omega]
  · rwa [show decide (0≤x∧x≤y)=false by apply decide_eq_false; omega] at hQ
theorem rising_ok {xs:List Int} {cols:Int} {Q:Bool→Prop} (hc0:0≤cols) (hc1:cols≤1000000000) (hl:xs.length≤1000000000)
    (h1:(∀ j:Nat,j<xs.length→0≤at0 xs j∧at0 xs j<cols∧(0<j→at0 xs ((j:Int) - 1)<at0 xs j))→Q true) (h2:(∃ j:Nat,j<xs.length∧¬(0≤at0 xs j∧at0 xs j<cols∧(0<j→at0 xs ((j:Int) - 1)<at0 xs j)))→Q false):dcsc_rising xs cols Q:=by
  unfold dcsc_rising
  rw [w64_id (by omega) (by omega)]
  refine scan_intro xs.length (by omega) (fun i=>∀ j:Nat,j<i→j<xs.length→0≤at0 xs j∧at0 xs j<cols∧(0<j→at0 xs ((j:Int) - 1)<at0 xs j)) (by simp) (fun i next hi hR hn=>?_) (fun next hR=>?_)
  · refine ifP_dec (fun _=>?_) (fun h=>by omega)
    refine idxP_at0 (by omega) (by omega) (dcsc_within_ok (ifP_not (fun h=>h2 ⟨i,hi,fun hh=>?_⟩) (fun h=>?_)))
    · simp at h; omega
    have h:0≤at0 xs i∧at0 xs i≤cols - 1:=by simpa using h
    have hstep (hx:0<i→at0 xs ((i:Int) - 1)<at0 xs i):next (w64 ((i:Int)+1)):=hn fun j hj hjl=>by
      by_cases e:j=i
      · subst e; exact ⟨h.1,by omega,hx⟩
      · exact hR j (by omega) hjl
    refine ifP_dec (fun h0=>?_) (fun h0=>hstep fun h=>by omega)
    rw [w64_id (by omega) (by omega)]
    refine idxP_at0 (by omega) (by omega) (ifP_dec (fun hle=>h2 ⟨i,hi,fun hh=>?_⟩) (fun hle=>hstep fun _=>by omega))
    have:=hh.2.2 (by omega); omega
  · exact ifP_dec (fun h=>by omega) (fun _=>h1 fun j hj=>hR j hj hj)
theorem lt_le {xs:List Int} {n:Nat} (h:∀ i:Nat,i<n→at0 xs i<at0 xs ((i:Int)+1)) {i j:Nat} (h1:i≤j) (h2:j≤n):at0 xs i≤at0 xs j:=by
  induction j with
  | zero => have : i = 0 := by omega
            subst this; exact Int.le_refl _
  | succ j ih=>
    by_cases e:i=j+1
    · subst e; exact Int.le_refl _
    · have:=ih (by omega) (by omega)
      have h3:=h j (by omega)
      have:((j+1:Nat):Int)=(j:Int)+1:=by omega
      rw [this]; omega
theorem dcsc_right_ok {c:Columns} {Q:Bool→Prop} (hl:smallC c) (hQ:Q (decide (ColP c))):dcsc_Right c Q:=by
  unfold dcsc_Right
  have hno (h:¬ColP c):Q false:=by rwa [decide_eq_false h] at hQ
  have hyes (h:ColP c):Q true:=by rwa [decide_eq_true h] at hQ
  unfold smallC at hl
  refine dcsc_within_ok (ifP_not (fun h=>hno fun hh=>?_) (fun h=>?_))
  · have:=hh.r0; have:=hh.r1; simp at h; omega
  have h1:0≤c.Rows∧c.Rows≤4096:=by simpa using h
  refine dcsc_within_ok (ifP_not (fun h=>hno fun hh=>?_) (fun h=>?_))
  · have:=hh.c0; have:=hh.c1; simp at h; omega
  have h2:0≤c.Cols∧c.Cols≤4096:=by simpa using h
  rw [w64_id (by omega) (by omega)]
  refine ifP_ne (fun h=>hno fun hh=>h hh.sl) (fun h3=>?_)
  refine ifP_ne (fun h=>hno fun hh=>h (by rw [hh.vl])) (fun h4=>?_)
  refine ifP_dec (fun h=>hno fun hh=>by have:=hh.cl; omega) (fun h5=>?_)
  have hsl:c.Start.length=c.At.length+1:=by omega
  refine rising_ok h2.1 (by omega) (by omega) (fun hat=>ifP_neg rfl ?_) (fun hb=>ifP_pos rfl (hno fun hh=>?_))
  rotate_left
  · obtain ⟨i,hi,hbad⟩:=hb
    exact hbad (hh.at_ i hi)
  rw [w64_id (by omega) (by omega)]
  refine rising_ok (by omega) (by omega) (by omega) (fun hst=>ifP_neg rfl ?_) (fun hb=>ifP_pos rfl (hno fun hh=>?_))
  rotate_left
  · obtain ⟨i,hi,hbad⟩:=hb
    have g0:=lt_le hh.up (i:=0) (j:=i) (by omega) (by omega)
    have g1:=lt_le hh.up (i:=i) (j:=c.At.length) (by omega) (by omega)
    have e0:=hh.s0; have en:=hh.sn
    rw [show ((0:Nat):Int)=0 from rfl] at g0
    refine hbad ⟨by omega,by omega,fun hp=>?_⟩
    have:=hh.up (i - 1) (by omega)
    rw [show ((i - 1:Nat):Int)=(i:Int) - 1 by omega,show (i:Int) - 1+1=i by omega] at this
    exact this
  refine idxP_at0 (by omega) (by omega) (ifP_ne (fun h=>hno fun hh=>h hh.s0) (fun h6=>?_))
  refine idxP_at0 (by omega) (by omega) (ifP_ne (fun h=>hno fun hh=>h hh.sn) (fun h7=>?_))
  have hup:∀ i:Nat,i<c.At.length→at0 c.Start i<at0 c.Start ((i:Int)+1):=fun i hi=>by
    have:=(hst (i+1) (by omega)).2.2 (by omega)
    rw [show ((i+1:Nat):Int) - 1=i by omega,show ((i+1:Nat):Int)=(i:Int)+1 by omega] at this
    exact this
  refine scan_intro c.At.length (by omega) (fun i=>∀ j:Nat,j<i→ColR c j) (by simp) (fun i next hi hR hnx=>?_) (fun next hR=>?_)
  · refine ifP_dec (fun _=>?_) (fun h=>by omega)
    have e1:w64 ((i:Int)+1)=(i:Int)+1:=w64_id (by omega) (by omega)
    rw [e1] at hnx ⊢
    have hlo:0≤at0 c.Start i:=(hst i (by omega)).1
    have hhi:at0 c.Start ((i:Int)+1)≤c.Row.length:=by
      have:=(hst (i+1) (by omega)).2.1
      rw [show ((i+1:Nat):Int)=(i:Int)+1 by omega] at this; omega
    have hm:=hup i hi
    refine idxP_at0 (by omega) (by omega) (idxP_at0 (by omega) (by omega) ⟨hlo,by omega,hhi,?_⟩)
    have hsl2:=seg_len hlo (Int.le_of_lt hm) hhi
    have heq:∀ j:Nat,at0 c.Start i+j<at0 c.Start ((i:Int)+1)→at0 ((c.Row.take (at0 c.Start ((i:Int)+1)).toNat).drop (at0 c.Start i).toNat) j=at0 c.Row (at0 c.Start i+j):=fun j hj=>at0_seg hlo (Int.le_of_lt hm) hhi hj
    refine rising_ok (by omega) (by omega) (by rw [hsl2]; omega) (fun hall=>ifP_neg rfl (hnx fun j hj=>?_)) (fun hb=>ifP_pos rfl (hno fun hh=>?_))
    · by_cases e:j=i
      · subst e
        intro p hp1 hp2
        obtain ⟨q,hq⟩:∃ q:Nat,(p:Int)=at0 c.Start j+q:=⟨(p - at0 c.Start j).toNat,by omega⟩
        have hr:=hall q (by rw [hsl2]; omega)
        rw [heq q (by omega),←hq] at hr
        refine ⟨hr.1,hr.2.1,fun hlt=>?_⟩
        have:=hr.2.2 (by omega)
        rw [show (q:Int) - 1=((q - 1:Nat):Int) by omega,heq (q - 1) (by omega),show at0 c.Start j+((q - 1:Nat):Int)=(p:Int) - 1 by omega] at this
        exact this
      · exact hR j (by omega)
    · obtain ⟨q,hq,hbad⟩:=hb
      rw [hsl2] at hq
      apply hbad
      have hr:=hh.row i hi (at0 c.Start i+q).toNat (by omega) (by omega)
      have ep:(((at0 c.Start i+q).toNat:Nat):Int)=at0 c.Start i+q:=by omega
      rw [ep] at hr
      rw [heq q (by omega)]
      refine ⟨hr.1,hr.2.1,fun h0=>?_⟩
      have:=hr.2.2 (by omega)
      rw [show (q:Int) - 1=((q - 1:Nat):Int) by omega,heq (q - 1) (by omega),show at0 c.Start i+((q - 1:Nat):Int)=at0 c.Start i+q - 1 by omega]
      exact this
  · refine ifP_dec (fun h=>by omega) (fun _=>hyes ⟨h1.1,h1.2,h2.1,h2.2,h3,by omega,by omega,h6,h7,hat,hup,fun i hi=>hR i (by omega)⟩)
theorem Canon.colp {rows cols:Int} {T:List Triple} (h:Canon cols rows T):ColP (colS rows cols T) where
  r0:=h.c0
  r1:=h.c1
  c0:=h.r0
  c1:=h.r1
  sl:=by simp [colS,st_len]
  vl:=by simp [colS]
  cl:=by simpa [colS] using h.len
  s0:=rfl
  sn:=by
    show at0 (stS cols.toNat T) (atS cols.toNat T).length=((T.map (·.Col)).length:Int)
    rw [List.length_map]
    cases hl:(atS cols.toNat T).length with
    | zero=>
      have hn:T=[]:=by
        rcases T with _ | ⟨t,T⟩
        · rfl
        · obtain ⟨q,hq,_⟩:=row_at h (t:=t) (by simp)
          omega
      subst hn; rfl
    | succ n=>
      have hj:n<(atS cols.toNat T).length:=by omega
      rw [show ((n+1:Nat):Int)=(n:Int)+1 by omega,st_hi hj]
      unfold below
      rw [List.countP_eq_length.2]
      intro t ht
      obtain ⟨q,hq,e⟩:=row_at h ht
      simp only [decide_eq_true_eq]
      rw [←e]
      have h0:=(at_in hj).1
      by_cases e1:q=n
      · subst e1; omega
      · have:=incr_at (atS_incr cols.toNat T) (show q<n by omega) hj; omega
  at_ i hi:=by
    have h0:=(at_in (T:=T) (n:=cols.toNat) hi).1
    refine ⟨h0.1,by have:=h.r0; show at0 (atS cols.toNat T) i<cols; omega,fun hp=>?_⟩
    have:=incr_at (atS_incr cols.toNat T) (show i - 1<i by omega) hi
    rw [show ((i - 1:Nat):Int)=(i:Int) - 1 by omega] at this
    exact this
  up i hi:=by
    obtain ⟨x,lo,hi',h1,h2,h3,h4,h5,s⟩:=h.colseg hi
    show at0 (stS cols.toNat T) i<at0 (stS cols.toNat T) ((i:Int)+1)
    omega
  row i hi:=by
    obtain ⟨x,lo,hi',h1,h2,h3,h4,h5,s⟩:=h.colseg hi
    intro j hj1 hj2
    have hj1:at0 (stS cols.toNat T) i≤j:=hj1
    have hj2:(j:Int)<at0 (stS cols.toNat T) ((i:Int)+1):=hj2
    show 0≤at0 (T.map (·.Col)) j∧at0 (T.map (·.Col)) j<rows∧(at0 (stS cols.toNat T) i<j→at0 (T.map (·.Col)) ((j:Int) - 1)<at0 (T.map (·.Col)) j)
    have hl:=s.len
    have hjl:j<T.length:=by omega
    have hc:at0 (T.map (·.Col)) j=T[j].Col:=by rw [at0_map (by omega) (by omega)]; rfl
    have hin:=h.inn _ (List.getElem_mem hjl)
    unfold inT at hin
    refine ⟨by rw [hc]; omega,by rw [hc]; omega,fun hlt=>?_⟩
    obtain ⟨q,rfl⟩:∃ q,j=q+1:=⟨j - 1,by omega⟩
    have hc2:at0 (T.map (·.Col)) (((q+1:Nat):Int) - 1)=T[q].Col:=by rw [at0_map (by omega) (by simp; omega)]; simp
    have r1:=s.row q (by omega) (by omega) (by omega)
    have r2:=s.row (q+1) hjl (by omega) (by omega)
    have hs:=List.pairwise_iff_getElem.1 h.srt q (q+1) (by omega) hjl (by omega)
    unfold ltK key at hs
    simp only at hs
    rw [hc,hc2]; omega
theorem colS_nil:colS 0 0 []=⟨0,0,[],[0],[],[]⟩:=by simp [colS,atS,stS]
noncomputable def sureC (c:Columns):Columns:=if ColP c then c else colS 0 0 []
theorem sureC_col {rows cols:Int} {T:List Triple} (h:Canon cols rows T):sureC (colS rows cols T)=colS rows cols T:=by
  unfold sureC; rw [if_pos h.colp]
theorem dcsc_sure_ok {c:Columns} {Q:Columns→Prop} (hl:smallC c) (hQ:Q (sureC c)):dcsc_sure c Q:=by
  unfold dcsc_sure dcsc_none
  unfold sureC at hQ
  refine dcsc_right_ok hl (ifP_dec (fun h=>?_) (fun h=>?_))
  · rwa [if_pos h] at hQ
  · rwa [if_neg h,colS_nil] at hQ
theorem Canon.smlC {rows cols:Int} {T:List Triple} (h:Canon cols rows T):smallC (colS rows cols T):=by
  have:=h.r1; have:=h.len; have:=atS_len cols.toNat T
  unfold smallC colS
  simp only [List.length_map,st_len]
  omega
end Go.Proofs.YtpackolbhcmomaaGreat
