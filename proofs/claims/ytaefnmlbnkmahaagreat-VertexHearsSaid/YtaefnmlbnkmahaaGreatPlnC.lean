import Derived.Test.YtaefnmlbnkmahaaGreatFwQ
import Derived.Test.YtaefnmlbnkmahaaGreatPushJ
namespace Go.Proofs.YtaefnmlbnkmahaaGreat
open Go Go.Fw
set_option linter.unusedVariables false
set_option linter.unusedSimpArgs false
def badD (l:List Int):Prop:=∃ d∈l,d<0∨2147483647<d
instance (l:List Int):Decidable (badD l):=by unfold badD; infer_instance
def rightPl (p:Plan):Int:=
  if p.Kind<1∨5<p.Kind then 8
  else if p.N<0∨4096<p.N∨((p.Kind=1∨p.Kind=2∨p.Kind=4)∧(p.Source<0∨p.N≤p.Source))∨(p.Kind=4∧(p.Length<0∨8192<p.Length)) then 3
  else if 65536<p.Draws.length then 5
  else if badD p.Draws then 7 else 0
theorem rightPl_zero {p:Plan} (h:rightPl p=0):(1≤p.Kind∧p.Kind≤5)∧(0≤p.N∧p.N≤4096)∧((p.Kind=1∨p.Kind=2∨p.Kind=4)→0≤p.Source∧p.Source<p.N)∧(p.Kind=4→0≤p.Length∧p.Length≤8192)∧p.Draws.length≤65536∧∀ d∈p.Draws,0≤d∧d≤2147483647:=by
  unfold rightPl at h
  split at h
  · cases h
  split at h
  · cases h
  split at h
  · cases h
  split at h
  · cases h
  rename_i h1 h2 h3 h4
  refine ⟨by omega,by omega,by omega,by omega,by omega,fun d hd=>?_⟩
  have:¬(d<0∨2147483647<d):=fun hb=>h4 ⟨d,hd,hb⟩
  omega
theorem draws_bad_ok {l:List Int} {Q:Bool→Prop} (hl:l.length≤65536) (hQ:Q (decide (badD l))):slices_ContainsFunc_int64_int64_80a l Q:=by
  unfold slices_ContainsFunc_int64_int64_80a slices_IndexFunc_int64_int64_135 prog_Right_1_a45
  refine scan_intro l.length (by omega) (fun i=>∀ (j:Nat) (hj:j<l.length),j<i→¬(l[j]<0∨2147483647<l[j])) (by simp) (fun i next hi hR hn=>?_) (fun next hR=>?_)
  · refine ifP_dec (fun _=>?_) (fun h=>by omega)
    have hbad (hb:l[i]<0∨2147483647<l[i]):Q (decide (0≤(i:Int))):=by
      rwa [decide_eq_true (show badD l from ⟨_,List.getElem_mem hi,hb⟩),←decide_eq_true (show (0:Int)≤i by omega)] at hQ
    refine idxP_nat hi (ifP_dec (fun h1=>ifP_pos rfl (hbad (.inl h1))) (fun h1=>ifP_dec (fun h2=>hbad (.inr h2)) (fun h2=>hn fun j hj hji=>?_)))
    by_cases e:j=i
    · subst e; omega
    · exact hR j hj (by omega)
  · refine ifP_dec (fun h=>by omega) (fun _=>?_)
    rwa [decide_eq_false (fun ⟨d,hd,hb⟩=>by
      obtain ⟨j,hj,rfl⟩:=List.getElem_of_mem hd
      exact hR j hj hj hb),←decide_eq_false (show ¬(0:Int) ≤ -1 by omega)] at hQ
theorem prog_Right_ok {p:Plan} {Q:Int→Prop} (hQ:Q (rightPl p)):prog_Right p Q:=by
  unfold prog_Right prog_within joinP
  unfold rightPl at hQ
  refine ifP_dec (fun h1=>by rwa [if_pos (by omega)] at hQ) (fun h1=>ifP_dec (fun h2=>by rwa [if_pos (by omega)] at hQ) (fun h2=>?_))
  rw [if_neg (by omega)] at hQ
  have hE (hb:p.N<0∨4096<p.N∨((p.Kind=1∨p.Kind=2∨p.Kind=4)∧(p.Source<0∨p.N≤p.Source))∨(p.Kind=4∧(p.Length<0∨8192<p.Length))):Q 3:=by rwa [if_pos hb] at hQ
  refine ifP_dec (fun h3=>ifP_not (fun h4=>hE (by have:=of_decide_eq_false h4; omega)) (fun h4=>?_)) (fun h3=>ifP_pos rfl (hE (by omega)))
  replace h4:=of_decide_eq_true h4
  have hw:w64 (p.N - 1)=p.N - 1:=w64_id (by omega) (by omega)
  have hk (hb:¬(p.N<0∨4096<p.N∨((p.Kind=1∨p.Kind=2∨p.Kind=4)∧(p.Source<0∨p.N≤p.Source))∨(p.Kind=4∧(p.Length<0∨8192<p.Length)))) :
      ifP (decide (65536<(p.Draws.length:Int))) (Q 5) (slices_ContainsFunc_int64_int64_80a p.Draws fun r141=>ifP r141 (Q 7) (Q 0)):=by
    rw [if_neg hb] at hQ
    refine ifP_dec (fun h=>by rwa [if_pos (by omega)] at hQ) (fun h=>?_)
    rw [if_neg (by omega)] at hQ
    exact draws_bad_ok (by omega) (ifP_dec (fun h=>by rwa [if_pos h] at hQ) (fun h=>by rwa [if_neg h] at hQ))
  have hs (hkd:p.Kind=1∨p.Kind=2∨p.Kind=4) (hln:p.Kind=4→0≤p.Length∧p.Length≤8192) :
      ifP (decide (0≤p.Source)) (ifP (!decide (p.Source≤w64 (p.N - 1))) (Q 3) (ifP (decide (65536<(p.Draws.length:Int))) (Q 5) (slices_ContainsFunc_int64_int64_80a p.Draws fun r141=>ifP r141 (Q 7) (Q 0))))
        (ifP (!false) (Q 3) (ifP (decide (65536<(p.Draws.length:Int))) (Q 5) (slices_ContainsFunc_int64_int64_80a p.Draws fun r141=>ifP r141 (Q 7) (Q 0)))):=by
    refine ifP_dec (fun h5=>ifP_not (fun h6=>hE (by have:=of_decide_eq_false h6; omega)) (fun h6=>hk (by have:=of_decide_eq_true h6; omega))) (fun h5=>ifP_pos rfl (hE (by omega)))
  refine ifP_eq (fun h5=>ifP_dec (fun h6=>ifP_not (fun h7=>hE (by have:=of_decide_eq_false h7; omega)) (fun h7=>hs (by omega) (fun _=>⟨h6,of_decide_eq_true h7⟩))) (fun h6=>ifP_pos rfl (hE (by omega)))) (fun h5=>?_)
  exact ifP_eq (fun h6=>hs (by omega) (by omega)) (fun h6=>ifP_eq (fun h7=>hs (by omega) (by omega)) (fun h7=>hk (by omega)))
theorem ref_Right_ok {p:Plan} {Q:Int→Prop} (hQ:Q (rightPl p)):ref21_Right p Q:=by
  unfold ref21_Right ref21_from joinP
  unfold rightPl at hQ
  refine ifP_dec (fun h1=>by rwa [if_pos (by omega)] at hQ) (fun h1=>ifP_dec (fun h2=>by rwa [if_pos (by omega)] at hQ) (fun h2=>?_))
  rw [if_neg (by omega)] at hQ
  have hE (hb:p.N<0∨4096<p.N∨((p.Kind=1∨p.Kind=2∨p.Kind=4)∧(p.Source<0∨p.N≤p.Source))∨(p.Kind=4∧(p.Length<0∨8192<p.Length))):Q 3:=by rwa [if_pos hb] at hQ
  have hk (hb:¬(p.N<0∨4096<p.N∨((p.Kind=1∨p.Kind=2∨p.Kind=4)∧(p.Source<0∨p.N≤p.Source))∨(p.Kind=4∧(p.Length<0∨8192<p.Length)))) :
      ifP (decide (65536<(p.Draws.length:Int))) (Q 5) (loopP (fun (s110:Int) (next111:Int→Prop)=>ifP (decide (s110<(p.Draws.length:Int))) (idxP p.Draws s110 fun x119=>ifP (decide (x119<0)) (Q 7) (idxP p.Draws s110 fun x129=>ifP (decide (2147483647<x129)) (Q 7) (next111 (w64 (s110+1))))) (Q 0)) 0):=by
    rw [if_neg hb] at hQ
    refine ifP_dec (fun h=>by rwa [if_pos (by omega)] at hQ) (fun h=>?_)
    rw [if_neg (by omega)] at hQ
    refine scan_intro p.Draws.length (by omega) (fun i=>∀ (j:Nat) (hj:j<p.Draws.length),j<i→¬(p.Draws[j]<0∨2147483647<p.Draws[j])) (by simp) (fun i next hi hR hn=>?_) (fun next hR=>?_)
    · refine ifP_dec (fun _=>?_) (fun h=>by omega)
      have hbad (hb:p.Draws[i]<0∨2147483647<p.Draws[i]):Q 7:=by rwa [if_pos (show badD p.Draws from ⟨_,List.getElem_mem hi,hb⟩)] at hQ
      refine idxP_nat hi (ifP_dec (fun h1=>hbad (.inl h1)) (fun h1=>idxP_nat hi (ifP_dec (fun h2=>hbad (.inr h2)) (fun h2=>hn fun j hj hji=>?_))))
      by_cases e:j=i
      · subst e; omega
      · exact hR j hj (by omega)
    · refine ifP_dec (fun h=>by omega) (fun _=>?_)
      rwa [if_neg (fun ⟨d,hd,hb⟩=>by
        obtain ⟨j,hj,rfl⟩:=List.getElem_of_mem hd
        exact hR j hj hj hb)] at hQ
  refine ifP_dec (fun h3=>hE (by omega)) (fun h3=>ifP_dec (fun h4=>hE (by omega)) (fun h4=>?_))
  have hl (hf:(p.Kind=1∨p.Kind=2∨p.Kind=4)→0≤p.Source∧p.Source<p.N) :
      ifP (p.Kind==4) (ifP (decide (p.Length<0)) (Q 3) (ifP (decide (8192<p.Length)) (Q 3) (ifP (decide (65536<(p.Draws.length:Int))) (Q 5) (loopP (fun (s110:Int) (next111:Int→Prop)=>ifP (decide (s110<(p.Draws.length:Int))) (idxP p.Draws s110 fun x119=>ifP (decide (x119<0)) (Q 7) (idxP p.Draws s110 fun x129=>ifP (decide (2147483647<x129)) (Q 7) (next111 (w64 (s110+1))))) (Q 0)) 0))))
        (ifP (decide (65536<(p.Draws.length:Int))) (Q 5) (loopP (fun (s110:Int) (next111:Int→Prop)=>ifP (decide (s110<(p.Draws.length:Int))) (idxP p.Draws s110 fun x119=>ifP (decide (x119<0)) (Q 7) (idxP p.Draws s110 fun x129=>ifP (decide (2147483647<x129)) (Q 7) (next111 (w64 (s110+1))))) (Q 0)) 0)):=
    ifP_eq (fun h5=>ifP_dec (fun h6=>hE (by omega)) (fun h6=>ifP_dec (fun h7=>hE (by omega)) (fun h7=>hk (by omega)))) (fun h5=>hk (by omega))
  have hy (hkd:p.Kind=1∨p.Kind=2∨p.Kind=4):=ifP_dec (p:=p.Source<0) (fun h5=>hE (by omega)) (fun h5=>ifP_dec (p:=p.N≤p.Source) (fun h6=>hE (by omega)) (fun h6=>hl (by omega)))
  refine ifP_eq (fun h5=>ifP_pos rfl (hy (by omega))) (fun h5=>ifP_eq (fun h6=>ifP_pos rfl (hy (by omega))) (fun h6=>?_))
  exact ifP_eq (fun h7=>hy (by omega)) (fun h7=>hl (by omega))
theorem bnd_odd (a:Int):bnd .i64 a 1=a % 2:=by
  have h:(BitVec.ofInt 64 a &&& BitVec.ofInt 64 1).toNat=(a % 2).toNat:=by
    rw [BitVec.toNat_and,BitVec.toNat_ofInt,BitVec.toNat_ofInt]
    rw [show ((1:Int) % ((2 ^ 64:Nat):Int)).toNat=1 by decide,Nat.and_one_is_mod]
    have:((2 ^ 64:Nat):Int)=18446744073709551616:=by decide
    rw [this]
    omega
  unfold bnd
  rw [show IntKind.i64.bits=64 from rfl,h]
  have h1:0≤a % 2:=by omega
  have h2:a % 2<2:=by omega
  rw [show ((a % 2).toNat:Int)=a % 2 by omega]
  exact w64_id (by omega) (by omega)
theorem tm2 (r:Int):r.tmod 2=0↔r % 2=0:=by
  rw [Int.tmod_eq_emod]
  split <;> omega
def ringPl (k:Int) (r:Int):Int:=if k=1∨k=3 then 4 else if k=2 then 1 else if k=4 then 5 else if k=5 then (if r % 2=0 then 2 else 4) else 0
theorem prog_Ring_ok {k r:Int} {Q:Int→Prop} (hQ:Q (ringPl k r)):prog_Ring k r Q:=by
  unfold prog_Ring
  rw [bnd_odd]
  unfold ringPl at hQ
  refine ifP_eq (fun h=>by subst h; exact hQ) (fun h1=>ifP_eq (fun h=>by subst h; exact hQ) (fun h2=>ifP_eq (fun h=>?_) (fun h3=>ifP_eq (fun h=>by subst h; exact hQ) (fun h4=>ifP_eq (fun h=>by subst h; exact hQ) (fun h5=>?_)))))
  · subst h
    refine ifP_eq (fun h=>?_) (fun h=>?_)
    · rw [if_neg (by omega),if_neg (by omega),if_neg (by omega),if_pos rfl,if_pos h] at hQ; exact hQ
    · rw [if_neg (by omega),if_neg (by omega),if_neg (by omega),if_pos rfl,if_neg h] at hQ; exact hQ
  · rwa [if_neg (by omega),if_neg h1,if_neg h2,if_neg h3] at hQ
theorem ref_Ring_ok {k r:Int} {Q:Int→Prop} (hQ:Q (ringPl k r)):ref21_Ring k r Q:=by
  unfold ref21_Ring joinP
  unfold ringPl at hQ
  refine ifP_eq (fun h=>ifP_pos (by subst h; rfl) (by subst h; exact hQ)) (fun h1=>ifP_eq (fun h=>by subst h; exact hQ) (fun h2=>ifP_eq (fun h=>by subst h; exact hQ) (fun h3=>ifP_eq (fun h=>by subst h; exact hQ) (fun h4=>ifP_eq (fun h=>?_) (fun h5=>?_)))))
  · subst h
    rw [if_neg (by omega),if_neg (by omega),if_neg (by omega),if_pos rfl] at hQ
    refine ifP_eq (fun h=>?_) (fun h=>?_)
    · rwa [if_pos ((tm2 r).1 h)] at hQ
    · rwa [if_neg (fun h'=>h ((tm2 r).2 h'))] at hQ
  · rwa [if_neg (by omega),if_neg h3,if_neg h4,if_neg h5] at hQ
theorem bor_add {x v:Int} (h0:0≤x) (h1:x≤2147483647) (h2:0≤v) (h3:v<4096):bor .i64 (shl .i64 x 12) v=x*4096+v:=by
  have e1:shl .i64 x 12=x*4096:=by
    unfold shl
    rw [show ((2:Int) ^ (min (Int.toNat 12) IntKind.i64.bits))=4096 from by decide]
    exact w64_id (by omega) (by omega)
  obtain ⟨a,rfl⟩:∃ a:Nat,x=(a:Int):=⟨x.toNat,by omega⟩
  obtain ⟨b,rfl⟩:∃ b:Nat,v=(b:Int):=⟨v.toNat,by omega⟩
  rw [e1]
  unfold bor
  have h:(BitVec.ofInt 64 ((a:Int)*4096) ||| BitVec.ofInt 64 (b:Int)).toNat=a*4096+b:=by
    rw [BitVec.toNat_or,BitVec.toNat_ofInt,BitVec.toNat_ofInt]
    have hp:((2 ^ 64:Nat):Int)=18446744073709551616:=by decide
    rw [hp,show (((a:Int)*4096) % 18446744073709551616).toNat=2 ^ 12*a by omega,show (((b:Int)) % 18446744073709551616).toNat=b by omega]
    rw [←Nat.two_pow_add_eq_or_of_lt (by omega:b<2 ^ 12)]
    omega
  rw [show IntKind.i64.bits=64 from rfl,h]
  rw [show ((a*4096+b:Nat):Int)=(a:Int)*4096+b by omega]
  exact w64_id (by omega) (by omega)
def dv (l:List Int) (i:Int):Int:=if l=[] then 0 else at0 l (i % l.length)
theorem dv_in {l:List Int} (h:∀ d∈l,0≤d∧d≤2147483647) (i:Int):0≤dv l i∧dv l i≤2147483647:=by
  unfold dv
  split
  · omega
  · rename_i hne
    have hl:0<l.length:=List.length_pos_iff.2 hne
    exact h _ (at0_mem (by exact Int.emod_nonneg _ (by omega)) (Int.emod_lt_of_pos _ (by omega)))
def numS (p:Plan) (d v:Int):Int:=if 0≤d∧d≤8192∧0≤v∧v<p.N then dv p.Draws (d*p.N+v)*4096+v else 0
theorem mul_in {d n:Int} (h0:0≤d) (h1:d≤8192) (h2:0≤n) (h3:n≤4096):0≤d*n∧d*n≤33554432:=by
  refine ⟨Int.mul_nonneg h0 h2,?_⟩
  have:=Int.mul_le_mul h1 h3 h2 (by omega:(0:Int)≤8192)
  omega
theorem idx_dv {l:List Int} {i:Int} {K:Int→Prop} (h0:0≤i) (hl:0<l.length) (hk:K (dv l i)):nzP (l.length:Int) (idxP l (i.tmod (l.length:Int)) K):=by
  refine ⟨by omega,?_⟩
  rw [Int.tmod_eq_emod_of_nonneg h0]
  refine idxP_at0 (Int.emod_nonneg _ (by omega)) (Int.emod_lt_of_pos _ (by omega)) ?_
  unfold dv at hk
  rwa [if_neg (List.length_pos_iff.1 hl)] at hk
theorem prog_number_ok {p:Plan} {d v:Int} {Q:Int→Prop} (hn:0≤p.N∧p.N≤4096) (hd:∀ d∈p.Draws,0≤d∧d≤2147483647) (hQ:Q (numS p d v)):prog_number p d v Q:=by
  unfold prog_number prog_within
  unfold numS at hQ
  have hw:w64 (p.N - 1)=p.N - 1:=w64_id (by omega) (by omega)
  rw [hw]
  refine ifP_dec (fun h1=>ifP_not (fun h2=>?_) (fun h2=>?_)) (fun h1=>ifP_pos rfl (by rwa [if_neg (by omega)] at hQ))
  · have:=of_decide_eq_false h2; rwa [if_neg (by omega)] at hQ
  replace h2:=of_decide_eq_true h2
  refine ifP_dec (fun h3=>ifP_not (fun h4=>?_) (fun h4=>?_)) (fun h3=>ifP_pos rfl (by rwa [if_neg (by omega)] at hQ))
  · have:=of_decide_eq_false h4; rwa [if_neg (by omega)] at hQ
  replace h4:=of_decide_eq_true h4
  rw [if_pos (by omega)] at hQ
  have hm:=mul_in h1 h2 hn.1 hn.2
  refine ifP_dec (fun h5=>?_) (fun h5=>?_)
  · rw [w64_id (x:=d*p.N) (by omega) (by omega),w64_id (x:=d*p.N+v) (by omega) (by omega)]
    refine idx_dv (by omega) (by omega) ?_
    have:=dv_in hd (d*p.N+v)
    rwa [bor_add this.1 this.2 h3 (by omega)]
  · rw [bor_add (by omega) (by omega) h3 (by omega)]
    have:p.Draws=[]:=List.eq_nil_of_length_eq_zero (by omega)
    rwa [show dv p.Draws (d*p.N+v)=0 by rw [this]; rfl] at hQ
def canonS (es:List Edge):List Edge:=(finS (SC 1 (es.map kvE)) mkE).1
theorem narS_in (a:Wide):inI (narS a).1:=by
  unfold narS inI
  split
  · rw [w64_eq]; omega
  · simp
theorem canon_inI (es:List Edge):∀ e∈canonS es,inI e.W:=by
  intro e he
  unfold canonS finS at he
  split at he
  · obtain ⟨p,_,rfl⟩:=List.mem_map.1 he
    exact narS_in _
  · cases he
theorem canon_len {es:List Edge} (h:∀ e∈es,inI e.W):(canonS es).length≤es.length:=by
  have:=(SC_prop 1 (es.map kvE) (fun t ht=>by obtain ⟨e,he,rfl⟩:=List.mem_map.1 ht; exact h e he)).1
  unfold canonS finS
  split
  · simpa using this
  · simp
theorem edges_Canon_ok {g:Graph} {Q:Graph→Prop} (hl:g.Edges.length≤1000000) (hv:∀ e∈g.Edges,inI e.W) (hQ:Q ⟨g.N,canonS g.Edges⟩):edges_Canon g Q:=by
  unfold edges_Canon; exact combine_ok (by omega) hl hv hQ
theorem filt_take {α:Type} {p:α→Bool} {xs:List α} {i:Nat} (h:i<xs.length):(xs.take (i+1)).filter p=(xs.take i).filter p++(if p xs[i] then [xs[i]] else []):=by
  rw [List.take_succ_eq_append_getElem h,List.filter_append]
  congr 1
  simp [List.filter_cons]
def notLoop (e:Edge):Bool:=e.From != e.To
def simpG (g:Graph):Graph:=⟨g.N,canonS (g.Edges.filter notLoop)⟩
def oneE (e:Edge):Edge:=⟨e.From,e.To,1⟩
def plainG (g:Graph):Graph:=⟨g.N,canonS (g.Edges.map oneE)⟩
def turnG (g:Graph):Graph:=⟨g.N,canonS (g.Edges.map flipE)⟩
def bothG (g:Graph):Graph:=⟨g.N,canonS (g.Edges++(turnG g).Edges)⟩
theorem filt_len {α:Type} {p:α→Bool} {xs:List α} {i:Nat} (h:i≤xs.length):((xs.take i).filter p).length≤i:=by
  have:=List.length_filter_le p (xs.take i)
  rw [List.length_take] at this; omega
theorem simple_ok {g:Graph} {Q:Graph→Prop} (hl:g.Edges.length≤1000000) (hv:∀ e∈g.Edges,inI e.W) (hQ:Q (simpG g)):edges_Simple g Q:=by
  unfold edges_Simple edges_made_71c edges_Simple_1_100
  refine range_intro (fun (s:List Edge) i=>(s,i)) 0 g.Edges.length (by omega) (fun i s=>s=(g.Edges.take i).filter notLoop) (by omega) rfl (fun i s next _ hi hm hn=>?_) (fun s next hm=>?_)
  · subst hm
    have hL:=filt_len (p:=notLoop) (xs:=g.Edges) (Nat.le_of_lt hi)
    refine ifP_dec (fun _=>idxP_nat hi ?_) (fun h=>by omega)
    have e:=filt_take (p:=notLoop) hi
    refine ifP_ne (fun h=>appP_intro (by simp; omega) (hn _ ?_)) (fun h=>hn _ ?_)
    · rw [e,if_pos (by unfold notLoop; simpa using h)]
    · rw [e,if_neg (by unfold notLoop; simpa using h),List.append_nil]
  · subst hm
    refine ifP_dec (fun h=>by omega) (fun _=>?_)
    rw [List.take_length]
    exact edges_Canon_ok (Nat.le_trans (List.length_filter_le _ _) hl) (fun e he=>hv e (List.mem_filter.1 he).1) hQ
theorem plain_ok {g:Graph} {Q:Graph→Prop} (hl:g.Edges.length≤1000000) (hQ:Q (plainG g)):edges_Plain g Q:=by
  unfold edges_Plain edges_made_56f edges_Plain_1_3d5
  refine range_intro (fun (s:List Edge) i=>(s,i)) 0 g.Edges.length (by omega) (fun i s=>s=(g.Edges.take i).map oneE) (by omega) rfl (fun i s next _ hi hm hn=>?_) (fun s next hm=>?_)
  · subst hm
    refine ifP_dec (fun _=>idxP_nat hi (ifP_pos rfl (appP_intro (by simp; omega) (hn _ ?_)))) (fun h=>by omega)
    rw [take_map hi]; rfl
  · subst hm
    refine ifP_dec (fun h=>by omega) (fun _=>?_)
    rw [List.take_length]
    exact edges_Canon_ok (by simpa using hl) (fun e he=>by obtain ⟨x,_,rfl⟩:=List.mem_map.1 he; unfold inI oneE; simp) hQ
theorem eturn_ok {g:Graph} {Q:Graph→Prop} (hl:g.Edges.length≤1000000) (hv:∀ e∈g.Edges,inI e.W) (hQ:Q (turnG g)):edges_Turn g Q:=by
  unfold edges_Turn edges_made_7c5 edges_turned_87e
  refine range_intro (fun (s:List Edge) i=>(s,i)) 0 g.Edges.length (by omega) (fun i s=>s=(g.Edges.take i).map flipE) (by omega) rfl (fun i s next _ hi hm hn=>?_) (fun s next hm=>?_)
  · subst hm
    refine ifP_dec (fun _=>idxP_nat hi (ifP_pos rfl (appP_intro (by simp; omega) (hn _ ?_)))) (fun h=>by omega)
    rw [take_map hi]; rfl
  · subst hm
    refine ifP_dec (fun h=>by omega) (fun _=>?_)
    rw [List.take_length]
    exact edges_Canon_ok (by simpa using hl) (fun e he=>by obtain ⟨x,hx,rfl⟩:=List.mem_map.1 he; exact hv x hx) hQ
theorem turn_props {g:Graph} (hl:g.Edges.length≤500000) (hv:∀ e∈g.Edges,inI e.W):(turnG g).Edges.length≤g.Edges.length∧∀ e∈(turnG g).Edges,inI e.W:=by
  refine ⟨?_,canon_inI _⟩
  have:=canon_len (es:=g.Edges.map flipE) (fun e he=>by obtain ⟨x,hx,rfl⟩:=List.mem_map.1 he; exact hv x hx)
  simpa [turnG] using this
theorem concat_ok {xs ys:List Edge} {Q:List Edge→Prop} (hl:xs.length+ys.length≤1000000) (hQ:Q (xs++ys)):slices_Concat_api_Edge_api_Edge [xs,ys] Q:=by
  unfold slices_Concat_api_Edge_api_Edge slices_Grow_api_Edge_api_Edge
  refine range_intro (fun (s:Int) i=>(s,i)) 0 2 (by omega) (fun i s=>s=(((([xs,ys]:List (List Edge)).take i).map List.length).sum:Nat)) (by omega) (by simp) (fun i s next _ hi hm hn=>?_) (fun s next hm=>?_)
  · subst hm
    refine ifP_dec (fun _=>?_) (fun h=>by simp at h; omega)
    match i,hi,hn with
    | 0,_,hn=>
      refine idxP_intro (x:=xs) (by omega) rfl ?_
      have e:w64 (((([xs,ys]:List (List Edge)).take 0).map List.length).sum+(xs.length:Int))=xs.length:=by simp; exact w64_id (by omega) (by omega)
      rw [e]
      exact ifP_dec (fun h=>by omega) (fun _=>hn _ (by simp))
    | 1,_,hn=>
      refine idxP_intro (x:=ys) (by omega) rfl ?_
      have e:w64 (((([xs,ys]:List (List Edge)).take 1).map List.length).sum+(ys.length:Int))=xs.length+ys.length:=by simp; exact w64_id (by omega) (by omega)
      rw [e]
      exact ifP_dec (fun h=>by omega) (fun _=>hn _ (by simp))
  · subst hm
    refine ifP_dec (fun h=>by simp at h) (fun _=>?_)
    have e:((((([xs,ys]:List (List Edge)).take 2).map List.length).sum:Nat):Int)=xs.length+ys.length:=by simp
    rw [e,w64_id (x:=0 - 0) (by omega) (by omega),w64_id (x:=(xs.length:Int)+ys.length - (0 - 0)) (by omega) (by omega)]
    have hk:loopP (fun (s:(List Edge)×Int) (next273:((List Edge)×Int)→Prop)=>match s with | (s268,s272)=>ifP (decide (s272<((([xs,ys]:List (List Edge)).length:Nat):Int))) (idxP [xs,ys] s272 fun x281=>appP 24 s268 x281 fun _=>next273 ((s268++x281),w64 (s272+1))) (Q s268)) ([],0):=by
      refine range_intro (fun (s:List Edge) i=>(s,i)) 0 2 (by omega) (fun i s=>s=(([xs,ys]:List (List Edge)).take i).flatten) (by omega) (by simp) (fun i s next _ hi hm hn=>?_) (fun s next hm=>?_)
      · subst hm
        refine ifP_dec (fun _=>?_) (fun h=>by simp at h; omega)
        match i,hi,hn with
        | 0,_,hn=>exact idxP_intro (x:=xs) (by omega) rfl (appP_intro (by simp; omega) (hn _ (by simp)))
        | 1,_,hn=>exact idxP_intro (x:=ys) (by omega) rfl (appP_intro (by simp; omega) (hn _ (by simp)))
      · subst hm
        refine ifP_dec (fun h=>by simp at h) (fun _=>?_)
        simpa using hQ
    exact ifP_dec (fun h=>by omega) (fun _=>ifP_dec (fun h=>⟨by omega,by omega,hk⟩) (fun h=>hk))
theorem both_ok {g:Graph} {Q:Graph→Prop} (hl:g.Edges.length≤100000) (hv:∀ e∈g.Edges,inI e.W) (hQ:Q (bothG g)):edges_Both g Q:=by
  unfold edges_Both
  have ht:=turn_props (by omega) hv
  refine eturn_ok (by omega) hv (concat_ok (by omega) (edges_Canon_ok (by simp; omega) (fun e he=>?_) hQ))
  rcases List.mem_append.1 he with h | h
  · exact hv e h
  · exact ht.2 e h
def matS (p:Plan) (g:Graph):Rows×Int:=
  if rightPl p≠0 then (zR,rightPl p) else if g.N≠p.N then (zR,4) else if rightG g≠0 then (zR,rightG g)
  else graphS (if p.Kind=5 then plainG (bothG (simpG g)) else if p.Kind=3 then plainG (bothG g) else if p.Kind=1 then plainG g else g)
theorem both_props {g:Graph} (hl:g.Edges.length≤65536) (hv:∀ e∈g.Edges,inI e.W):(bothG g).Edges.length≤200000∧∀ e∈(bothG g).Edges,inI e.W:=by
  have ht:=turn_props (by omega) hv
  refine ⟨?_,canon_inI _⟩
  have:=canon_len (es:=g.Edges++(turnG g).Edges) (fun e he=>by
    rcases List.mem_append.1 he with h | h
    · exact hv e h
    · exact ht.2 e h)
  rw [List.length_append] at this
  show (canonS _).length≤_
  omega
theorem simp_props {g:Graph} (hl:g.Edges.length≤65536) (hv:∀ e∈g.Edges,inI e.W):(simpG g).Edges.length≤65536∧∀ e∈(simpG g).Edges,inI e.W:=by
  refine ⟨?_,canon_inI _⟩
  have h1:=canon_len (es:=g.Edges.filter notLoop) (fun e he=>hv e (List.mem_filter.1 he).1)
  have h2:=List.length_filter_le notLoop g.Edges
  show (canonS _).length≤_
  omega
theorem prog_Matrix_ok {p:Plan} {g:Graph} {Q:Rows×Int→Prop} (hQ:Q (matS p g)):prog_Matrix p g Q:=by
  unfold prog_Matrix
  unfold matS at hQ
  refine prog_Right_ok (ifP_ne (fun h=>by rwa [if_pos h] at hQ) (fun h=>?_))
  rw [if_neg (fun h'=>h' h)] at hQ
  refine ifP_ne (fun h=>by rwa [if_pos h] at hQ) (fun h=>?_)
  rw [if_neg (fun h'=>h' h)] at hQ
  refine graph_right_ok (ifP_ne (fun h=>by rwa [if_pos h] at hQ) (fun h=>?_))
  rw [if_neg (fun h'=>h' h)] at hQ
  obtain ⟨_,_,hl,_,hw⟩:=rightG_zero h
  have hv:∀ e∈g.Edges,inI e.W:=fun e he=>by have:=hw e he; unfold wOk at this; unfold inI; omega
  have hs:=simp_props hl hv
  have hb:=both_props hl hv
  have hsb:=both_props hs.1 hs.2
  refine ifP_eq (fun h5=>?_) (fun h5=>?_)
  · rw [if_pos h5] at hQ
    exact simple_ok (by omega) hv (both_ok (by omega) hs.2 (plain_ok (by omega) (graph_ok hQ)))
  rw [if_neg h5] at hQ
  refine ifP_eq (fun h3=>?_) (fun h3=>?_)
  · rw [if_pos h3] at hQ
    exact both_ok (by omega) hv (plain_ok (by omega) (graph_ok hQ))
  rw [if_neg h3] at hQ
  refine ifP_eq (fun h1=>?_) (fun h1=>?_)
  · rw [if_pos h1] at hQ
    exact plain_ok (by omega) (graph_ok hQ)
  rw [if_neg h1] at hQ
  exact graph_ok hQ
theorem shr1 (i:Int):shr .u64 i 1=i / 2:=by
  unfold shr
  rw [Int.fdiv_eq_ediv_of_nonneg _ (by decide)]; rfl
theorem shr1' (i:Int):shr .i64 i 1=i / 2:=by
  unfold shr
  rw [Int.fdiv_eq_ediv_of_nonneg _ (by decide)]; rfl
theorem mid_eq {a b:Int} (h0:0≤a) (h1:0≤b) (h2:a≤1000000) (h3:b≤1000000):w64 (shr .u64 (IntKind.wrap .u64 (w64 (a+b))) 1)=(a+b) / 2:=by
  rw [w64_id (x:=a+b) (by omega) (by omega),wrap_u64_id (by omega) (by omega),shr1,w64_id (by omega) (by omega)]
theorem cmpc_neg (x y:Int):cmpc x y<0↔x<y:=by unfold cmpc; split <;> (try split) <;> omega
theorem cmpc_zero (x y:Int):cmpc x y=0↔x=y:=by unfold cmpc; split <;> (try split) <;> omega
theorem spvec_Get_ok {v:Vec} {i:Int} {Q:Int×Bool→Prop} (hl:v.Items.length≤1000000000) (hQ:Q (getO (lkI (sureV v).Items i))):spvec_Get v i Q:=by
  unfold spvec_Get
  refine spvec_sure_ok hl ?_
  have hP:=sureV_ok v
  generalize sureV v=w at hP hQ
  have hi:=hP.inc
  have hlen:=hP.len
  unfold spvec_find slices_BinarySearchFunc_api_Item_api_Item_int_8a3 spvec_order_7ac
  refine loop_intro (fun s:Int×Int=>0≤s.1∧s.1≤s.2∧s.2≤w.Items.length∧(∀ (k:Nat) (hk:k<w.Items.length),(k:Int)<s.1→(w.Items[k]).At<i)∧(∀ (k:Nat) (hk:k<w.Items.length),s.2≤(k:Int)→¬(w.Items[k]).At<i)) (fun s=>(s.2 - s.1).toNat) ⟨by simp,by simp,by simp,fun k hk h=>by simp at h; omega,fun k hk h=>by simp at h; omega⟩ ?_
  rintro ⟨a,b⟩ next ⟨h0,h1,h2,h3,h4⟩ hn
  simp only at h0 h1 h2 h3 h4
  refine ifP_dec (fun hab=>?_) (fun hab=>?_)
  · rw [mid_eq h0 (by omega) (by omega) (by omega)]
    obtain ⟨m,hm⟩:∃ m:Nat,(a+b) / 2=(m:Int):=⟨((a+b) / 2).toNat,by omega⟩
    rw [hm]
    have hml:m<w.Items.length:=by omega
    refine idxP_nat hml (cmp_int_ok (ifP_dec (fun hc=>?_) (fun hc=>?_)))
    · rw [cmpc_neg] at hc
      rw [w64_id (by omega) (by omega)]
      refine hn _ ⟨by simp only; omega,by simp only; omega,h2,fun k hk hkm=>?_,h4⟩ (by simp only; omega)
      simp only at hkm
      by_cases e:k=m
      · subst e; exact hc
      · have:=hi.at hml (by omega:k<m); omega
    · rw [cmpc_neg] at hc
      refine hn _ ⟨h0,by simp only; omega,by simp only; omega,h3,fun k hk hkm=>?_⟩ (by simp only; omega)
      simp only at hkm
      by_cases e:k=m
      · subst e; exact hc
      · have:=hi.at hk (by omega:m<k); omega
  · have hab':a=b:=by omega
    subst hab'
    obtain ⟨m,rfl⟩:∃ m:Nat,a=(m:Int):=⟨a.toNat,by omega⟩
    refine ifP_dec (fun hm=>?_) (fun hm=>?_)
    · have hml:m<w.Items.length:=by omega
      refine idxP_nat hml (cmp_int_ok ?_)
      by_cases e:(w.Items[m]).At=i
      · have hb:(cmpc (w.Items[m]).At i==0)=true:=by rw [beq_iff_eq,cmpc_zero]; exact e
        dsimp only
        rw [hb]
        refine ifP_neg rfl (idxP_nat hml ?_)
        have:=mem_lkI hi (List.getElem_mem hml)
        rw [e] at this
        rw [this] at hQ
        exact hQ
      · have hb:(cmpc (w.Items[m]).At i==0)=false:=by rw [beq_eq_false_iff_ne,Ne,cmpc_zero]; exact e
        dsimp only
        rw [hb]
        refine ifP_pos rfl ?_
        rw [lkI_none fun s hs=>?_] at hQ
        · exact hQ
        · obtain ⟨k,hk,rfl⟩:=List.getElem_of_mem hs
          by_cases hkm:k<m
          · have:=h3 k hk (by omega); omega
          · by_cases hkm':k=m
            · subst hkm'; exact e
            · have h5:=hi.at hk (by omega:m<k); have h6:=h4 m hml (by omega); omega
    · refine ifP_pos rfl ?_
      rw [lkI_none fun s hs=>?_] at hQ
      · exact hQ
      · obtain ⟨k,hk,rfl⟩:=List.getElem_of_mem hs
        have:=h3 k hk (by omega); omega
def zSt:State:=⟨0,0,[],[],[]⟩
def sizN (s:State):Nat:=(s.High - s.Low).toNat
def StP (p:Plan) (s:State):Prop:=rightPl p=0∧0≤s.Low∧s.Low≤s.High∧s.High≤p.N∧s.A.length=sizN s∧s.B.length=sizN s∧rightF s.On (s.High - s.Low)
instance (p:Plan) (s:State):Decidable (StP p s):=by unfold StP; infer_instance
def sureSt (p:Plan) (s:State):State:=if StP p s then s else zSt
def okSt (s:State):Prop:=okF s.On∧s.On.length≤1000000
theorem prog_sure_ok {p:Plan} {s:State} {Q:State→Prop} (ho:okSt s) (hQ:Q (sureSt p s)):prog_sure p s Q:=by
  unfold prog_sure prog_can
  have hb (h:¬StP p s):ifP false (Q s) (Q zSt):=ifP_neg rfl (by unfold sureSt at hQ; rwa [if_neg h] at hQ)
  refine prog_Right_ok (ifP_ne (fun h=>hb fun h'=>h h'.1) (fun h=>?_))
  have hr:=rightPl_zero h
  refine ifP_dec (fun h1=>hb fun h'=>by have:=h'.2.1; omega) (fun h1=>ifP_dec (fun h2=>hb fun h'=>by have:=h'.2.2.1; omega) (fun h2=>ifP_dec (fun h3=>hb fun h'=>by have:=h'.2.2.2.1; omega) (fun h3=>?_)))
  rw [w64_id (x:=s.High - s.Low) (by omega) (by omega)]
  refine ifP_eq (fun h4=>ifP_eq (fun h5=>?_) (fun h5=>hb fun h'=>by have:=h'.2.2.2.2.2.1; unfold sizN at this; omega)) (fun h4=>hb fun h'=>by have:=h'.2.2.2.2.1; unfold sizN at this; omega)
  refine flags_Right_ok ho.1 ho.2 (ifP_dec (fun h6=>?_) (fun h6=>?_))
  · unfold sureSt at hQ
    rwa [if_pos ⟨h,by omega,by omega,by omega,by unfold sizN; omega,by unfold sizN; omega,h6⟩] at hQ
  · have:¬StP p s:=fun h'=>h6 h'.2.2.2.2.2.2
    unfold sureSt at hQ
    rwa [if_neg this] at hQ
def mapN {β:Type} (n:Nat) (f:Nat→β):List β:=(List.range n).map f
def onsN (n:Nat) (f:Nat→Bool):List Int:=((List.range n).filter f).map fun i:Nat=>(i:Int)
theorem mapN_succ {β:Type} (n:Nat) (f:Nat→β):mapN (n+1) f=mapN n f++[f n]:=by simp [mapN,List.range_succ]
theorem mapN_len {β:Type} (n:Nat) (f:Nat→β):(mapN n f).length=n:=by simp [mapN]
theorem onsN_succ (n:Nat) (f:Nat→Bool):onsN (n+1) f=if f n then onsN n f++[(n:Int)] else onsN n f:=by
  unfold onsN
  rw [List.range_succ,List.filter_append,List.map_append]
  split <;> simp_all [List.filter_cons]
theorem onsN_len (n:Nat) (f:Nat→Bool):(onsN n f).length≤n:=by
  unfold onsN
  rw [List.length_map]
  exact Nat.le_trans (List.length_filter_le _ _) (by simp)
theorem onsN_in {n:Nat} {f:Nat→Bool} {x:Int} (h:x∈onsN n f):0≤x∧x<n:=by
  obtain ⟨i,hi,rfl⟩:=List.mem_map.1 h
  have:=List.mem_range.1 (List.mem_filter.1 hi).1
  omega
theorem mapN_at {n:Nat} {f:Nat→Int} {i:Nat} (h:i<n):at0 (mapN n f) i=f i:=by
  unfold at0 mapN
  simp [List.getD_eq_getElem?_getD,h]
theorem mapN_congr {β:Type} {n:Nat} {f g:Nat→β} (h:∀ i,i<n→f i=g i):mapN n f=mapN n g:=List.map_congr_left fun i hi=>h i (List.mem_range.1 hi)
theorem onsN_congr {n:Nat} {f g:Nat→Bool} (h:∀ i,i<n→f i=g i):onsN n f=onsN n g:=by
  unfold onsN; rw [List.filter_congr fun i hi=>h i (List.mem_range.1 hi)]
def chS (low high:Int) (n:Nat) (g:Nat→Int×Int×Bool):State:=⟨low,high,mapN n fun i=>(g i).1,mapN n fun i=>(g i).2.1,ofF n (onsN n fun i=>(g i).2.2)⟩
theorem changed_loop {n:Nat} (hn:n≤4096) {F:Int→((Int×Int×Bool)→Prop)→Prop} {g:Nat→Int×Int×Bool} (hF:∀ (i:Nat) K,i<n→K (g i)→F i K) {low high:Int} {Q:State→Prop} (hQ:Q (chS low high n g)) :
    loopP (fun (s:(List Int)×(List Int)×(List Int)×Int) (next161:((List Int)×(List Int)×(List Int)×Int)→Prop)=>match s with | (s145,s149,s153,s157)=>ifP (decide (s157<(n:Int))) (F s157 fun r181=>appP 8 s145 ([r181.1]) fun _=>appP 8 s149 ([r181.2.1]) fun _=>ifP r181.2.2 (appP 8 s153 ([s157]) fun _=>next161 ((s145++([r181.1])),(s149++([r181.2.1])),(s153++([s157])),w64 (s157+1))) (next161 ((s145++([r181.1])),(s149++([r181.2.1])),s153,w64 (s157+1)))) (flags_Of (n:Int) s153 fun r206=>Q ({ Low:=low,High:=high,A:=s145,B:=s149,On:=r206 }:State))) (([]:List Int),([]:List Int),([]:List Int),0):=by
  refine range_intro (fun (s:List Int×List Int×List Int) i=>(s.1,s.2.1,s.2.2,i)) 0 n (by omega) (fun i s=>s=(mapN i fun i=>(g i).1,mapN i fun i=>(g i).2.1,onsN i fun i=>(g i).2.2)) (by omega) rfl (fun i s next _ hi hm hnx=>?_) (fun s next hm=>?_) (s0:=([],[],[]))
  · subst hm
    have hol:=onsN_len i fun i=>(g i).2.2
    refine ifP_dec (fun _=>hF i _ hi (appP_intro (by simp [mapN]; omega) (appP_intro (by simp [mapN]; omega) ?_))) (fun h=>by omega)
    have hs:=onsN_succ i fun i=>(g i).2.2
    cases hb:(g i).2.2 with
    | true=>
      refine ifP_pos rfl (appP_intro (by simp; omega) (hnx (_,_,_) ?_))
      simp only [mapN_succ,hs,hb,if_true]
    | false=>
      refine ifP_neg rfl (hnx (_,_,_) ?_)
      simp only [mapN_succ,hs,hb,Bool.false_eq_true,if_false]
  · subst hm
    refine ifP_dec (fun h=>by omega) (fun _=>?_)
    have hol:=onsN_len n fun i=>(g i).2.2
    exact flags_Of_ok (by simp only; omega) (fun x hx=>by have:=onsN_in hx; unfold inI; omega) hQ
def infI:Int:=4611686018427387904
def firstS (p:Plan) (v:Int):Int×Bool:=
  if p.Kind=3 then (v,true) else if p.Kind=5 then (0,false) else if p.Kind=4∧v=p.Source then (1,true) else if v=p.Source then (0,true) else if p.Kind=4 then (0,false) else if p.Kind=1 then (-1,false) else (infI,false)
theorem prog_first_ok {p:Plan} {v:Int} {Q:Int×Bool→Prop} (hQ:Q (firstS p v)):prog_first p v Q:=by
  unfold prog_first joinP
  unfold firstS at hQ
  refine ifP_eq (fun h=>by rwa [if_pos h] at hQ) (fun h3=>ifP_eq (fun h=>by rwa [if_neg h3,if_pos h] at hQ) (fun h5=>?_))
  rw [if_neg h3,if_neg h5] at hQ
  have hk (h:¬(p.Kind=4∧v=p.Source)):ifP false (Q (1,true)) (ifP (v==p.Source) (ifP true (Q (0,true)) (ifP (p.Kind==1) (Q (-1,false)) (Q (4611686018427387904,false)))) (ifP (p.Kind==4) (Q (0,false)) (ifP (p.Kind==1) (Q (-1,false)) (Q (4611686018427387904,false))))):=by
    rw [if_neg h] at hQ
    refine ifP_neg rfl (ifP_eq (fun h1=>ifP_pos rfl (by rwa [if_pos h1] at hQ)) (fun h1=>?_))
    rw [if_neg h1] at hQ
    refine ifP_eq (fun h2=>by rwa [if_pos h2] at hQ) (fun h2=>?_)
    rw [if_neg h2] at hQ
    exact ifP_eq (fun h6=>by rwa [if_pos h6] at hQ) (fun h6=>by rwa [if_neg h6] at hQ)
  refine ifP_eq (fun h4=>?_) (fun h4=>hk fun h=>h4 h.1)
  by_cases hs:v=p.Source
  · rw [if_pos ⟨h4,hs⟩] at hQ
    exact ifP_pos (by simpa using hs) hQ
  · have hb:(v==p.Source)=false:=by simpa using hs
    have:=hk fun h=>hs h.2
    rw [hb] at this ⊢
    exact this
def beginS (p:Plan) (low high:Int):State:=
  if rightPl p=0∧0≤low∧low≤high∧high≤p.N then chS low high (high - low).toNat fun i=>((firstS p (low+i)).1,-1,(firstS p (low+i)).2) else zSt
theorem prog_Begin_ok {p:Plan} {low high:Int} {Q:State→Prop} (hQ:Q (beginS p low high)):prog_Begin p low high Q:=by
  unfold prog_Begin
  unfold beginS at hQ
  have hb (h:¬(rightPl p=0∧0≤low∧low≤high∧high≤p.N)):Q zSt:=by rwa [if_neg h] at hQ
  refine prog_Right_ok (ifP_ne (fun h=>hb fun h'=>h h'.1) (fun h=>ifP_dec (fun h1=>hb (by omega)) (fun h1=>ifP_dec (fun h2=>hb (by omega)) (fun h2=>ifP_dec (fun h3=>hb (by omega)) (fun h3=>?_)))))
  rw [if_pos ⟨h,by omega,by omega,by omega⟩] at hQ
  have hr:=rightPl_zero h
  have e:w64 (high - low)=((high - low).toNat:Int):=by rw [w64_id (by omega) (by omega)]; omega
  unfold prog_changed_b13 prog_Begin_1_d27
  rw [e]
  refine changed_loop (F:=fun a0 K=>prog_first p (w64 (low+a0)) fun r8=>K (r8.1,(-1),r8.2)) (by omega) (fun i K hi hK=>?_) hQ
  rw [w64_id (x:=low+(i:Int)) (by omega) (by omega)]
  exact prog_first_ok hK
theorem ref_Begin_ok {p:Plan} {low high:Int} {Q:State→Prop} (hQ:Q (beginS p low high)):ref21_Begin p low high Q:=by
  unfold ref21_Begin ref21_none
  unfold beginS at hQ
  have hb (h:¬(rightPl p=0∧0≤low∧low≤high∧high≤p.N)):Q zSt:=by rwa [if_neg h] at hQ
  refine ref_Right_ok (ifP_ne (fun h=>hb fun h'=>h h'.1) (fun h=>ifP_dec (fun h1=>hb (by omega)) (fun h1=>ifP_dec (fun h2=>hb (by omega)) (fun h2=>ifP_dec (fun h3=>hb (by omega)) (fun h3=>?_)))))
  rw [if_pos ⟨h,by omega,by omega,by omega⟩] at hQ
  have hr:=rightPl_zero h
  obtain ⟨l,rfl⟩:∃ l:Nat,low=(l:Int):=⟨low.toNat,by omega⟩
  obtain ⟨n,rfl⟩:∃ n:Nat,high=((l+n:Nat):Int):=⟨(high - l).toNat,by omega⟩
  rw [show (((l+n:Nat):Int) - (l:Int)).toNat=n by omega] at hQ
  have e:w64 (((l+n:Nat):Int) - (l:Int))=(n:Int):=by rw [w64_id (by omega) (by omega)]; omega
  rw [e]
  have hkd:=hr.1
  refine range_intro (fun (s:List Int×List Int×List Int) i=>(s.1,s.2.1,s.2.2,i)) l (l+n) (by omega) (fun i s=>s=(mapN (i - l) fun i=>(firstS p (l+i)).1,mapN (i - l) fun _=>-1,onsN (i - l) fun i=>(firstS p (l+i)).2)) (by omega) (by simp [mapN,onsN]) (fun i s next hli hi hm hnx=>?_) (fun s next hm=>?_) (s0:=([],[],[]))
  · subst hm
    obtain ⟨j,rfl⟩:∃ j:Nat,i=l+j:=⟨i - l,by omega⟩
    have hol:=onsN_len j fun i=>(firstS p (l+i)).2
    rw [show l+j - l=j by omega]
    dsimp only
    have e2:w64 (((l+j:Nat):Int) - (l:Int))=(j:Int):=by rw [w64_id (by omega) (by omega)]; omega
    rw [e2]
    rw [show ((l+j:Nat):Int)=(l:Int)+j by omega] at hnx ⊢
    rw [show l+j+1 - l=j+1 by omega] at hnx
    refine ifP_dec (fun _=>?_) (fun h=>by omega)
    have hs:=onsN_succ j fun i=>(firstS p (l+i)).2
    have hfin (a:Int) (o:Bool) (ho:firstS p ((l:Int)+j)=(a,o)):joinP (fun (k1272:(List Int)→Prop)=>ifP o (appP 8 (onsN j fun i=>(firstS p (l+i)).2) ([(j:Int)]) fun _=>k1272 ((onsN j fun i=>(firstS p (l+i)).2)++([(j:Int)]))) (k1272 (onsN j fun i=>(firstS p (l+i)).2))) fun s1268=>appP 8 (mapN j fun i=>(firstS p (l+i)).1) ([a]) fun _=>appP 8 (mapN j fun _=>(-1:Int)) ([(-1)]) fun _=>next (((mapN j fun i=>(firstS p (l+i)).1)++([a])),((mapN j fun _=>(-1:Int))++([(-1)])),s1268,w64 ((l:Int)+j+1)):=by
      unfold joinP
      cases o with
      | true=>
        refine ifP_pos rfl (appP_intro (by simp; omega) (appP_intro (by simp [mapN]; omega) (appP_intro (by simp [mapN]; omega) (hnx (_,_,_) ?_))))
        simp only [mapN_succ,hs,ho,if_true]
      | false=>
        refine ifP_neg rfl (appP_intro (by simp [mapN]; omega) (appP_intro (by simp [mapN]; omega) (hnx (_,_,_) ?_)))
        simp only [mapN_succ,hs,ho,Bool.false_eq_true,if_false]
        rfl
    unfold ref21_from
    generalize ((l:Int)+j)=v at hfin ⊢
    have hf:=hfin (firstS p v).1 (firstS p v).2 rfl
    clear hfin hnx
    rcases (by omega:p.Kind=1∨p.Kind=2∨p.Kind=3∨p.Kind=4∨p.Kind=5) with hk | hk | hk | hk | hk <;> by_cases hs:v=p.Source <;>
      simpa [joinP,ifP_iff,firstS,infI,hk,hs] using hf
  · subst hm
    refine ifP_dec (fun h=>by omega) (fun _=>?_)
    rw [show l+n - l=n by omega]
    have hol:=onsN_len n fun i=>(firstS p (l+i)).2
    exact ref03_Of_ok (by simp only; omega) (fun x hx=>by have:=onsN_in hx; unfold inI; omega) hQ
end Go.Proofs.YtaefnmlbnkmahaaGreat
