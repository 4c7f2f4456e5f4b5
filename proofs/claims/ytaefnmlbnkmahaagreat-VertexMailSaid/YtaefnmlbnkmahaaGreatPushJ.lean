import Derived.Test.YtaefnmlbnkmahaaGreatBaseC
namespace Go.Proofs.YtaefnmlbnkmahaaGreat
open Go Go.Fw
set_option linter.unusedVariables false
set_option linter.unusedSimpArgs false
def askF (f:List Int) (o:Bool) (i:Int):Bool:=hasF f i != o
def stepW (r:Int) (A B:Int→Option Int) (acc:Option Wide) (k:Int):Option Wide:=match A k,B k with | some a,some x=>cmb r acc (some (mulW r a x)) | _,_=>acc
def rowW (r:Int) (n:Nat) (A B:Int→Option Int):Option Wide:=(List.range n).foldl (fun acc (k:Nat)=>stepW r A B acc k) none
def sumsS (r:Int) (m n:Nat) (f:List Int) (o:Bool) (A:Int→Int→Option Int) (B:Int→Option Int):List Sum:=
  (List.range m).filterMap fun i:Nat=>if askF f o i then (rowW r n (A i) B).map fun w=>(⟨i,w⟩:Sum) else none
theorem sumsS_succ (r:Int) (m n:Nat) (f:List Int) (o:Bool) (A:Int→Int→Option Int) (B:Int→Option Int) :
    sumsS r (m+1) n f o A B=sumsS r m n f o A B++(if askF f o m then (rowW r n (A m) B).map fun w=>(⟨m,w⟩:Sum) else none).toList:=by
  unfold sumsS
  rw [List.range_succ,List.filterMap_append]
  congr 1
theorem stepW_okW {r:Int} {A B:Int→Option Int} {acc:Option Wide} (h:∀ w,acc=some w→okW w) (k:Int):∀ w,stepW r A B acc k=some w→okW w:=by
  intro w hw
  unfold stepW at hw
  split at hw
  · cases acc with
    | none=>cases hw; exact mulW_okW _ _ _
    | some b=>cases hw; exact addW_okW (h b rfl) (mulW_okW _ _ _)
  · exact h w hw
theorem rowW_okW (r:Int) (n:Nat) (A B:Int→Option Int):∀ w,rowW r n A B=some w→okW w:=by
  unfold rowW
  induction n with
  | zero=>intro w hw; cases hw
  | succ n ih=>rw [List.range_succ,List.foldl_append]; exact stepW_okW ih n
theorem sumsS_prop (r:Int) (n:Nat) (f:List Int) (o:Bool) (A:Int→Int→Option Int) (B:Int→Option Int):∀ m:Nat,
    Rise (sumsS r m n f o A B)∧(sumsS r m n f o A B).length≤m∧okS (sumsS r m n f o A B)∧(∀ s∈sumsS r m n f o A B,0≤s.At∧s.At<m)∧∀ i:Int,lk (sumsS r m n f o A B) i=if 0≤i∧i<m∧askF f o i=true then rowW r n (A i) B else none:=by
  intro m
  induction m with
  | zero=>
    refine ⟨.nil,by simp [sumsS],by simp [sumsS,okS],by simp [sumsS],fun i=>?_⟩
    rw [if_neg (by omega)]; rfl
  | succ m ih=>
    obtain ⟨h1,h2,h3,h4,h5⟩:=ih
    rw [sumsS_succ]
    by_cases ha:askF f o m=true
    · rw [if_pos ha]
      cases hw:rowW r n (A m) B with
      | none=>
        simp only [Option.map_none,Option.toList_none,List.append_nil]
        refine ⟨h1,by omega,h3,fun s hs=>by have:=h4 s hs; omega,fun i=>?_⟩
        rw [h5]
        by_cases e:i=m
        · subst e; rw [if_neg (by omega),hw]; simp
        · by_cases hi:0≤i∧i<m∧askF f o i=true
          · rw [if_pos hi,if_pos ⟨hi.1,by omega,hi.2.2⟩]
          · rw [if_neg hi,if_neg (fun h=>hi ⟨h.1,by omega,h.2.2⟩)]
      | some w=>
        simp only [Option.map_some,Option.toList_some]
        refine ⟨List.pairwise_append.2 ⟨h1,by simp,fun a ha' b hb=>?_⟩,by simp; omega,fun s hs=>?_,fun s hs=>?_,fun i=>?_⟩
        · simp only [List.mem_singleton] at hb; subst hb; exact (h4 a ha').2
        · rcases List.mem_append.1 hs with hs | hs
          · exact h3 s hs
          · simp only [List.mem_singleton] at hs; subst hs; exact rowW_okW r n _ _ w hw
        · rcases List.mem_append.1 hs with hs | hs
          · have:=h4 s hs; omega
          · simp only [List.mem_singleton] at hs; subst hs; simp only; omega
        · rw [lk_append,h5,lk_cons,lk_nil]
          by_cases e:i=m
          · subst e
            have c1:0≤(m:Int)∧(m:Int)<((m+1:Nat):Int)∧askF f o m=true:=⟨by omega,by omega,ha⟩
            rw [if_neg (fun h=>by omega),if_pos c1,hw]; simp
          · rw [if_neg e]
            by_cases hi:0≤i∧i<m∧askF f o i=true
            · rw [if_pos hi,if_pos ⟨hi.1,by omega,hi.2.2⟩]; split <;> simp_all
            · rw [if_neg hi,if_neg (fun h=>hi ⟨h.1,by omega,h.2.2⟩)]
    · rw [if_neg ha]
      simp only [Option.toList_none,List.append_nil]
      refine ⟨h1,by omega,h3,fun s hs=>by have:=h4 s hs; omega,fun i=>?_⟩
      rw [h5]
      by_cases e:i=m
      · subst e; rw [if_neg (by omega),if_neg (fun h=>ha h.2.2)]
      · by_cases hi:0≤i∧i<m∧askF f o i=true
        · rw [if_pos hi,if_pos ⟨hi.1,by omega,hi.2.2⟩]
        · rw [if_neg hi,if_neg (fun h=>hi ⟨h.1,by omega,h.2.2⟩)]
theorem foldl_same {β γ:Type} {f g:β→γ→β}:∀ {l:List γ} {a:β},(∀ acc k,k∈l→f acc k=g acc k)→l.foldl f a=l.foldl g a
  | [],_,_=>rfl
  | x :: l,a,h=>by rw [List.foldl_cons,List.foldl_cons,h a x (by simp)]; exact foldl_same fun acc k hk=>h acc k (by simp [hk])
theorem inc_fold {β:Type} {step:β→Int→Int→β} {a:β}:∀ {n:Nat} {l:List Item},IncI l→(∀ x∈l,0≤x.At∧x.At<n) →
    l.foldl (fun acc x=>step acc x.At x.Val) a=(List.range n).foldl (fun acc (k:Nat)=>match lkI l k with | some v=>step acc k v | none=>acc) a
  | 0,l,h,hi=>by
    cases l with
    | nil=>rfl
    | cons x l=>have:=hi x (by simp); omega
  | n+1,l,h,hi=>by
    rw [List.range_succ,List.foldl_append]
    simp only [List.foldl_cons,List.foldl_nil]
    have hc:l=[]∨∃ p y,l=p++[y]:=by
      rcases List.eq_nil_or_concat l with h | ⟨p,y,h⟩
      · exact .inl h
      · exact .inr ⟨p,y,by rw [h,List.concat_eq_append]⟩
    have old:∀ {l:List Item},IncI l→(∀ x∈l,0≤x.At∧x.At<n)→lkI l n=none:=fun _ hi=>lkI_none fun s hs=>by have:=hi s hs; omega
    rcases hc with e | ⟨p,y,e⟩
    · subst e
      rw [←inc_fold (n:=n) (l:=[]) h (by simp)]; rfl
    · subst e
      have hp:IncI p:=(List.pairwise_append.1 h).1
      have hlt:∀ x∈p,x.At<y.At:=fun x hx=>(List.pairwise_append.1 h).2.2 x hx y (by simp)
      by_cases ey:y.At=n
      · have hpin:∀ x∈p,0≤x.At∧x.At<n:=fun x hx=>⟨(hi x (by simp [hx])).1,by have:=hlt x hx; omega⟩
        have e1:lkI (p++[y]) n=some y.Val:=by rw [lkI_append,old hp hpin,lkI_cons,if_pos ey.symm]
        rw [e1,List.foldl_append,inc_fold hp hpin]
        simp only [List.foldl_cons,List.foldl_nil,ey]
        congr 1
        refine foldl_same fun acc k hk=>?_
        have hk:=List.mem_range.1 hk
        have:lkI (p++[y]) k=lkI p k:=by rw [lkI_append,lkI_cons,if_neg (by omega)]; cases lkI p k <;> rfl
        rw [this]
      · have hin:∀ x∈p++[y],0≤x.At∧x.At<n:=by
          intro x hx
          have h1:=hi x hx
          refine ⟨h1.1,?_⟩
          have hy:=hi y (by simp)
          rcases List.mem_append.1 hx with hx | hx
          · have:=hlt x hx; omega
          · simp only [List.mem_singleton] at hx; subst hx; omega
        rw [old h hin,inc_fold h hin]
theorem colI_inc {T:List Triple} (h:Srt T) (k:Int):IncI (colI T k):=by
  unfold colI IncI
  rw [List.pairwise_map]
  have h1:(T.filter fun t=>decide (t.Row=k)).Pairwise fun a b=>ltK (key a) (key b):=List.Pairwise.filter _ h
  refine List.Pairwise.imp_of_mem (fun {a b} ha hb hab=>?_) h1
  have ha:=of_decide_eq_true (List.mem_filter.1 ha).2
  have hb:=of_decide_eq_true (List.mem_filter.1 hb).2
  unfold ltK key at hab
  simp only [itS] at hab ⊢; omega
theorem colI_mem {T:List Triple} {k:Int} {x:Item}:x∈colI T k↔(⟨k,x.At,x.Val⟩:Triple)∈T:=by
  unfold colI
  simp only [List.mem_map,List.mem_filter,decide_eq_true_eq]
  constructor
  · rintro ⟨t,⟨ht,e⟩,rfl⟩; subst e; exact ht
  · intro h; exact ⟨_,⟨h,rfl⟩,rfl⟩
def stepI (r:Int) (B:Int→Option Int) (acc:Option Wide) (y:Item):Option Wide:=match B y.At with | some x=>cmb r acc (some (mulW r y.Val x)) | none=>acc
theorem stepI_okW {r:Int} {B:Int→Option Int} {acc:Option Wide} (h:∀ w,acc=some w→okW w) (y:Item):∀ w,stepI r B acc y=some w→okW w:=by
  intro w hw
  unfold stepI at hw
  split at hw
  · cases acc with
    | none=>cases hw; exact mulW_okW _ _ _
    | some b=>cases hw; exact addW_okW (h b rfl) (mulW_okW _ _ _)
  · exact h w hw
theorem foldI_okW (r:Int) (B:Int→Option Int):∀ (l:List Item) (acc:Option Wide),(∀ w,acc=some w→okW w)→∀ w,l.foldl (stepI r B) acc=some w→okW w
  | [],acc,h=>h
  | y :: l,acc,h=>foldI_okW r B l _ (stepI_okW h y)
theorem row_fold {r:Int} {B:Int→Option Int} {n:Nat} {l:List Item} (h:IncI l) (hi:∀ x∈l,0≤x.At∧x.At<n):l.foldl (stepI r B) none=rowW r n (lkI l) B:=by
  have:=inc_fold (step:=fun acc k a=>match B k with | some x=>cmb r acc (some (mulW r a x)) | none=>acc) (a:=none) h hi
  refine this.trans (foldl_same fun acc k _=>?_)
  unfold stepW
  cases lkI l (k:Int) <;> cases B (k:Int) <;> rfl
def rowI (ts:List Triple) (i:Int):List Item:=(segS ts i.toNat).map itS
theorem rowI_colI (ts:List Triple) {i:Int} (h:0≤i):rowI ts i=colI ts i:=by
  unfold rowI colI segS
  rw [Int.toNat_of_nonneg h]
def sumsR (r rows cols:Int) (ts:List Triple) (v:Vec) (f:List Int) (o:Bool):List Sum×Int:=
  if ¬(1≤r∧r≤5) then ([],8) else if v.N≠cols then ([],4) else (sumsS r rows.toNat cols.toNat f o (fun i=>lkI (rowI ts i)) (lkI v.Items),0)
theorem ref13_Sums_ok {r rows cols:Int} {a:Rows} {ts:List Triple} {v:Vec} {f:List Int} {o:Bool} {Q:List Sum×Int→Prop} (hl:small a) (ha:sureS a=builtS rows cols ts) (h:Canon rows cols ts) (ht:∀ t∈ts,inI t.Val) (hv:VecP v) (hvv:∀ y∈v.Items,inI y.Val)
    (hf:okF f) (hQ:Q (sumsR r rows cols ts v f o)):ref13_Sums r a (denS v) f o Q:=by
  unfold ref13_Sums
  unfold sumsR at hQ
  have hr0:=h.r0; have hr1:=h.r1; have hc0:=h.c0; have hc1:=h.c1; have hlen:=h.len; have hvl:=hv.len
  refine ref_sure_ok hl ?_
  rw [ha]
  refine ref10_Back_ok hv (ref02_Is_ok (ifP_not (fun h'=>?_) (fun h'=>ifP_ne (fun hne=>?_) (fun he=>?_))))
  · rw [if_pos (of_decide_eq_false h')] at hQ; exact hQ
  · rw [if_neg (by have:=of_decide_eq_true h'; omega),if_pos (show v.N≠cols from hne)] at hQ; exact hQ
  have hr:=of_decide_eq_true h'
  have he:v.N=cols:=he
  rw [if_neg (by omega),if_neg (by omega)] at hQ
  show loopP _ (([]:List Sum),((0:Nat):Int))
  refine range_intro (fun (s:List Sum) i=>(s,i)) 0 rows.toNat (by omega) (fun m s=>s=sumsS r m cols.toNat f o (fun i=>lkI (rowI ts i)) (lkI v.Items)) (by omega) (by simp [sumsS]) (fun i s next _ hi hs hn=>?_) (fun s next hs=>?_)
  · have hB:(builtS rows cols ts).Rows=rows:=rfl
    have hsl:s.length≤i:=by subst hs; exact (sumsS_prop r cols.toNat f o (fun i=>lkI (rowI ts i)) (lkI v.Items) i).2.1
    have hsucc:=sumsS_succ r i cols.toNat f o (fun i=>lkI (rowI ts i)) (lkI v.Items)
    rw [←hs] at hsucc
    refine ifP_dec (fun _=>ref03_Has_ok hf (by unfold inI; omega) (ifP_eq (fun hb=>hn _ ?_) (fun hb=>?_))) (fun h'=>by rw [hB] at h'; omega)
    · have hno:¬askF f o i=true:=by unfold askF; rw [hb]; simp
      rw [hsucc,if_neg hno]; simp
    · have hask:askF f o i=true:=by unfold askF; rw [bne_iff_ne]; exact hb
      rw [if_pos hask] at hsucc
      obtain ⟨lo,hi',sg⟩:=h.seg i
      have e1:w64 ((i:Int)+1)=(i+1:Nat):=by rw [w64_id (by omega) (by omega)]; omega
      rw [e1] at hn ⊢
      refine start_idx (by omega) ?_
      rw [sg.lo]
      have g1:=sg.le; have g2:=sg.len
      have hrow:rowI ts i=((ts.take hi').drop lo).map itS:=by rw [sg.eq]; simp [rowI]
      have hin:IncI (rowI ts i)∧∀ x∈rowI ts i,0≤x.At∧x.At<cols.toNat:=by
        rw [rowI_colI ts (by omega)]
        refine ⟨colI_inc h.srt _,fun x hx=>?_⟩
        have:=h.inn _ (colI_mem.1 hx); unfold inT at this; simp only at this; omega
      have hfold:=row_fold (r:=r) (B:=lkI v.Items) hin.1 hin.2
      refine range_intro (s0:=(none:Option Wide)) (fun (s:Option Wide) k=>((s.getD ⟨0,0⟩).Hi,(s.getD ⟨0,0⟩).Lo,s.isSome,k)) lo hi' (by omega) (fun p acc=>acc=(((ts.take p).drop lo).map itS).foldl (stepI r (lkI v.Items)) none) (by omega) (by simp) (fun p acc next' hp1 hp2 hacc hn'=>?_) (fun acc next' hacc=>?_)
      · dsimp only
        have hpl:p<ts.length:=by omega
        have hok:∀ w,acc=some w→okW w:=by subst hacc; exact foldI_okW r _ _ none (fun w hw=>by cases hw)
        have hstep:(((ts.take (p+1)).drop lo).map itS).foldl (stepI r (lkI v.Items)) none=stepI r (lkI v.Items) acc (itS ts[p]):=by
          rw [ext_step hp1 hpl,List.map_append,List.foldl_append,←hacc]; rfl
        refine start_idx (by omega) ?_
        rw [sg.hi]
        refine ifP_dec (fun _=>?_) (fun h=>by omega)
        refine idxP_intro (by omega) (x:=ts[p].Col) (by simp [builtS,hpl]) (ref09_Get_ok (by omega) ?_)
        rw [sureV_id hv]
        cases hB':lkI v.Items ts[p].Col with
        | none=>
          refine ifP_pos rfl (hn' acc ?_)
          rw [hstep]; unfold stepI; simp only [itS,hB']
        | some x=>
          refine ifP_neg rfl (idxP_intro (by omega) (x:=ts[p].Val) (by simp [builtS,hpl]) (ref02_Mul_ok (ht _ (List.getElem_mem hpl)) (hvv _ (lkI_mem hB')) ?_))
          have hst:stepI r (lkI v.Items) acc (itS ts[p])=cmb r acc (some (mulW r ts[p].Val x)):=by unfold stepI; simp only [itS,hB']
          cases acc with
          | none=>exact ifP_neg rfl (hn' (some (mulW r ts[p].Val x)) (by rw [hstep,hst]; rfl))
          | some w=>exact ifP_pos rfl (ref02_Add_ok (hok w rfl) (mulW_okW _ _ _) (hn' (some (addW r w (mulW r ts[p].Val x))) (by rw [hstep,hst]; rfl)))
      · dsimp only
        refine start_idx (by omega) ?_
        rw [sg.hi]
        refine ifP_dec (fun h=>by omega) (fun _=>?_)
        rw [←hrow,hfold] at hacc
        cases acc with
        | none=>
          refine ifP_neg rfl (hn _ ?_)
          rw [hsucc,←hacc]; simp
        | some w=>
          refine ifP_pos rfl (appP_intro (by simp; omega) (hn _ ?_))
          rw [hsucc,←hacc]; rfl
  · refine ifP_dec (fun h'=>by have hB:(builtS rows cols ts).Rows=rows:=rfl; rw [hB] at h'; omega) (fun _=>?_)
    subst hs; exact hQ
def zS (r:Int):Int:=if r=1∨r=3∨r=4 then 4611686018427387904 else 0
theorem ring_Zero_ok {r:Int} {Q:Int→Prop} (hQ:Q (zS r)):ring_Zero r Q:=by
  unfold ring_Zero; unfold zS at hQ
  refine ifP_eq (fun h=>?_) (fun h=>ifP_eq (fun h3=>?_) (fun h3=>ifP_eq (fun h4=>?_) (fun h4=>?_)))
  · rwa [if_pos (.inl h)] at hQ
  · rwa [if_pos (.inr (.inl h3))] at hQ
  · rwa [if_pos (.inr (.inr h4))] at hQ
  · rwa [if_neg (by omega)] at hQ
theorem ref02_Zero_ok {r:Int} {Q:Int→Prop} (hQ:Q (zS r)):ref02_Zero r Q:=by
  unfold ref02_Zero ref02_least; unfold zS at hQ
  have h1:(r=1∨r=3∨r=4)→ifP true (Q 4611686018427387904) (Q 0):=fun h=>ifP_pos rfl (by rwa [if_pos h] at hQ)
  refine ifP_eq (fun h=>h1 (.inl h)) (fun h=>ifP_eq (fun h3=>h1 (.inr (.inl h3))) (fun h3=>ifP_eq (fun h4=>?_) (fun h4=>?_)))
  · rwa [if_pos (.inr (.inr h4))] at hQ
  · rwa [if_neg (by omega)] at hQ
def nzI (r:Int) (s:Sum):Option Item:=if (narS s.Val).1≠zS r then some ⟨s.At,(narS s.Val).1⟩ else none
def doneS (r n:Int) (l:List Sum):Vec×Int:=
  if ¬(1≤r∧r≤5) then (zV,8) else if ¬(0≤n∧n≤4096)∨∃ s∈l,¬(0≤s.At∧s.At<n) then (zV,3) else if ¬Rise l then (zV,6)
  else if ∃ s∈l,(narS s.Val).2=false then (zV,12) else (⟨n,l.filterMap (nzI r)⟩,0)
theorem ref13_Done_ok {r n:Int} {l:List Sum} {Q:Vec×Int→Prop} (hl:l.length≤1000000000) (ho:okS l) (hQ:Q (doneS r n l)):ref13_Done r n l Q:=by
  unfold ref13_Done
  unfold doneS at hQ
  refine ref02_Is_ok (ifP_not (fun h=>?_) (fun h=>?_))
  · rw [if_pos (of_decide_eq_false h)] at hQ; exact hQ
  have hr:=of_decide_eq_true h
  rw [if_neg (by omega)] at hQ
  refine ifP_dec (fun h=>?_) (fun h0=>ifP_dec (fun h=>?_) (fun h1=>?_))
  · rw [if_pos (.inl (by omega))] at hQ; exact hQ
  · rw [if_pos (.inl (by omega))] at hQ; exact hQ
  refine scan_intro l.length (by omega) (fun k=>∀ i (hi:i<l.length),i<k→0≤l[i].At∧l[i].At<n) (fun i hi h=>by omega) (fun k next hk hR hn=>?_) (fun next hR=>?_)
  · refine ifP_dec (fun _=>idxP_nat hk (ifP_dec (fun h=>?_) (fun h2=>idxP_nat hk (ifP_dec (fun h=>?_) (fun h3=>hn fun i hi hik=>?_))))) (fun h=>by omega)
    · rw [if_pos (.inr ⟨_,List.getElem_mem hk,by omega⟩)] at hQ; exact hQ
    · rw [if_pos (.inr ⟨_,List.getElem_mem hk,by omega⟩)] at hQ; exact hQ
    · by_cases e:i=k
      · subst e; omega
      · exact hR i hi (by omega)
  refine ifP_dec (fun h=>by omega) (fun _=>?_)
  rw [if_neg (by
    rintro (h' | ⟨s,hs,hn⟩)
    · omega
    · obtain ⟨i,hi,rfl⟩:=List.mem_iff_getElem.1 hs
      exact hn (hR i hi hi))] at hQ
  show loopP _ ((1:Nat):Int)
  by_cases hz:l.length=0
  · have hl0:l=[]:=List.eq_nil_of_length_eq_zero hz
    subst hl0
    refine ⟨1,ifP_dec (fun h=>by simp at h) (fun _=>⟨1,ifP_dec (fun h=>by simp at h) (fun _=>?_)⟩)⟩
    rw [if_neg (fun hn=>hn .nil),if_neg (by simp)] at hQ
    exact hQ
  refine range_intro (s0:=()) (fun (_:Unit) i=>i) 1 l.length (by omega) (fun k _=>∀ (i:Nat) (hi:i+1<l.length),i+1<k→l[i].At<l[i+1].At) (by omega) (fun i hi h=>by omega) (fun i _ next' h1' hi hR' hn=>?_) (fun _ next' hR'=>?_)
  · have e:w64 ((i:Int) - 1)=((i - 1:Nat):Int):=by rw [w64_id (by omega) (by omega)]; omega
    rw [e]
    refine ifP_dec (fun _=>idxP_nat hi (idxP_nat (by omega) (ifP_dec (fun h'=>?_) (fun h'=>hn () fun j hj hjn=>?_)))) (fun h=>by omega)
    · have:¬Rise l:=fun hr=>by have:=hr.adj hi (i:=i - 1) (by omega); omega
      rw [if_pos this] at hQ; exact hQ
    · by_cases e':j+1=i
      · subst e'; simp only [Nat.add_sub_cancel] at h'; omega
      · exact hR' j hj (by omega)
  · refine ifP_dec (fun h=>by omega) (fun _=>?_)
    rw [if_neg (fun hn=>hn (rise_adj fun i hi=>hR' i hi (by omega)))] at hQ
    refine range_intro (s0:=([]:List Item)) (fun (s:List Item) i=>(s,i)) 0 l.length (by omega) (fun k s=>s=(l.take k).filterMap (nzI r)∧∀ i (hi:i<l.length),i<k→(narS l[i].Val).2=true) (by omega) ⟨by simp,fun i hi h=>by omega⟩ (fun k s next' _ hk hs hn=>?_) (fun s next' hs=>?_)
    · obtain ⟨hs,hall⟩:=hs
      have hsl:s.length≤k:=by
        subst hs
        have:=List.length_filterMap_le (nzI r) (l.take k)
        rw [List.length_take] at this; omega
      refine ifP_dec (fun _=>idxP_nat hk (ref01_narrow_ok (ho _ (List.getElem_mem hk)) (ifP_not (fun hb=>?_) (fun hb=>ref02_Zero_ok (ifP_ne (fun hne=>idxP_nat hk (appP_intro (by simp; omega) (hn _ ⟨?_,?_⟩))) (fun he=>hn _ ⟨?_,?_⟩)))))) (fun h=>by omega)
      · rw [if_pos ⟨_,List.getElem_mem hk,hb⟩] at hQ; exact hQ
      · rw [List.take_succ_eq_append_getElem hk,List.filterMap_append,←hs]
        simp [nzI,hne]
      · intro i hi hik
        by_cases e:i=k
        · subst e; exact hb
        · exact hall i hi (by omega)
      · rw [List.take_succ_eq_append_getElem hk,List.filterMap_append,←hs]
        simp [nzI,he]
      · intro i hi hik
        by_cases e:i=k
        · subst e; exact hb
        · exact hall i hi (by omega)
    · obtain ⟨hs,hall⟩:=hs
      rw [List.take_length] at hs
      subst hs
      refine ifP_dec (fun h=>by omega) (fun _=>?_)
      rw [if_neg] at hQ
      · exact hQ
      · rintro ⟨s,hs,hb⟩
        obtain ⟨i,hi,rfl⟩:=List.mem_iff_getElem.1 hs
        rw [hall i hi hi] at hb; cases hb
def nextS (f:List Int) (n:Int):Int:=((listF f).find? fun i=>decide (n≤i)).getD (-1)
theorem nextS_some {f:List Int} {n p:Int} (h:hasF f p=true) (hn:n≤p) (hm:∀ q,q<p→n≤q→hasF f q=false):nextS f n=p:=by
  have hp:=listF_mem.2 h
  have hinc:=listF_incr f
  have hmem:∀ q∈listF f,hasF f q=true:=fun q hq=>listF_mem.1 hq
  unfold nextS
  generalize listF f=l at hp hinc hmem
  induction l with
  | nil=>simp at hp
  | cons x l ih=>
    rw [List.pairwise_cons] at hinc
    rw [List.find?_cons]
    by_cases e:n≤x
    · rw [decide_eq_true e]
      simp only [Option.getD_some]
      rcases List.mem_cons.1 hp with e' | hp
      · exact e'.symm
      · have:=hinc.1 p hp
        have:=hm x (by omega) e
        rw [hmem x (by simp)] at this; cases this
    · rw [decide_eq_false e]
      rcases List.mem_cons.1 hp with e' | hp
      · omega
      · exact ih hp hinc.2 fun q hq=>hmem q (by simp [hq])
theorem nextS_none {f:List Int} {n:Int} (h:∀ q,n≤q→hasF f q=false):nextS f n = -1:=by
  unfold nextS
  rw [List.find?_eq_none.2]
  · rfl
  · intro q hq hd
    have:=h q (of_decide_eq_true hd)
    rw [listF_mem.1 hq] at this; cases this
theorem bnd_one {x:Int} (h0:0≤x) (h1:x<18446744073709551616):bnd .u64 x 1=x % 2:=by
  rw [bnd_nat h0 h1 (by omega) (by omega),show Int.toNat 1=1 from rfl,Nat.and_one_is_mod]; omega
theorem shr_one (x:Int):shr .u64 x 1=x / 2:=shr_u 1 (by omega)
theorem word_bit {f:List Int} (hf:okF f) {i j:Nat} (hj:j<64) {w:Int} (hw:w=at0 f i / 2 ^ j):(hasF f (64*i+j)=true↔w % 2=1):=by
  have hb:=okF_at hf i
  unfold hasF
  rw [show (64*(i:Int)+j) / 64=i by omega,show ((64*(i:Int)+j) % 64).toNat=j by omega]
  rw [Nat.testBit_eq_decide_div_mod_eq]
  have e:w=(((at0 f i).toNat / 2 ^ j:Nat):Int):=by
    rw [hw,Int.natCast_ediv,Int.natCast_pow,Int.toNat_of_nonneg hb.1]; rfl
  rw [e]
  simp only [show decide ((0:Int)≤64*i+j)=true by simp; omega,Bool.true_and,decide_eq_true_eq]
  omega
theorem word_zero {f:List Int} (hf:okF f) {i j k:Nat} (hjk:j≤k) (hk:k<64) {w:Int} (hw:w=at0 f i / 2 ^ j) (h0:w=0):hasF f (64*i+k)=false:=by
  have hb:=okF_at hf i
  unfold hasF
  rw [show (64*(i:Int)+k) / 64=i by omega,show ((64*(i:Int)+k) % 64).toNat=k by omega]
  have e:w=(((at0 f i).toNat / 2 ^ j:Nat):Int):=by
    rw [hw,Int.natCast_ediv,Int.natCast_pow,Int.toNat_of_nonneg hb.1]; rfl
  have hlt:(at0 f i).toNat<2 ^ j:=by
    have h0':(at0 f i).toNat / 2 ^ j=0:=by omega
    rcases Nat.div_eq_zero_iff.1 h0' with h | h
    · exact absurd h (Nat.ne_of_gt (Nat.pow_pos (by omega)))
    · exact h
  rw [Nat.testBit_lt_two_pow (Nat.lt_of_lt_of_le hlt (Nat.pow_le_pow_right (by omega) hjk))]
  simp
theorem word_half {f:List Int} {i j:Nat} {w:Int} (hw:w=at0 f i / 2 ^ j):w / 2=at0 f i / 2 ^ (j+1):=by
  rw [hw,Int.ediv_ediv_of_nonneg (by exact Int.le_of_lt (Int.pow_pos (by omega))),Int.pow_succ]
theorem flags_Next_ok {f:List Int} {n:Int} {Q:Int→Prop} (hf:okF f) (hl:f.length≤1000000) (hQ:Q (nextS f n)):flags_Next f n Q:=by
  unfold flags_Next flags_each_555 flags_each_1_6c7
  refine range_intro (s0:=((0:Int),(0:Nat))) (fun (s:Int×Nat) i=>(s.1,i,s.2)) 0 f.length (by omega) (fun k s=>s.2=0∧∀ q,q<64*(k:Int)→n≤q→hasF f q=false) (by omega) ⟨rfl,fun q hq _=>hasF_neg (by omega)⟩ (fun k s next _ hk hs hn=>?_) (fun s next hs=>?_)
  · obtain ⟨s1,s2⟩:=s
    obtain ⟨h1,h2⟩:=hs
    simp only at h1 h2 ⊢
    subst h1
    have hb:=okF_at hf k
    refine ifP_dec (fun _=>idxP_at0 (by omega) (by omega) ?_) (fun h=>by omega)
    have esh:shl .i64 (k:Int) 6=64*(k:Int):=by
      show w64 ((k:Int)*2 ^ 6)=_
      rw [w64_id (by omega) (by omega)]; omega
    rw [esh]
    refine loop_intro (fun s:Int×Int×Int×Nat=>∃ j:Nat,j≤64∧s.2.2.1=64*k+j∧s.2.1=at0 f k / 2 ^ j∧s.2.2.2=0∧∀ q,q<64*(k:Int)+j→n≤q→hasF f q=false) (fun s=>s.2.1.toNat) ⟨0,by omega,by simp,by simp,rfl,fun q hq=>h2 q (by omega)⟩ ?_
    rintro ⟨t1,w,at',t4⟩ nx ⟨j,hj,ha,hw,h4,h5⟩ hnx
    simp only at ha hw h4 h5 ⊢
    subst h4
    have hw0:0≤w∧w<18446744073709551616:=by
      rw [hw]
      have hp:(0:Int)<2 ^ j:=Int.pow_pos (by omega)
      exact ⟨Int.ediv_nonneg hb.1 (Int.le_of_lt hp),Int.lt_of_le_of_lt (Int.ediv_le_self _ hb.1) hb.2⟩
    have e1:w64 (at'+1)=64*(k:Int)+((j+1:Nat):Int):=by rw [ha,w64_id (by omega) (by omega)]; omega
    refine ifP_ne (fun hne=>?_) (fun he=>?_)
    · have hj64:j<64:=by
        rcases Nat.lt_or_ge j 64 with h | h
        · exact h
        · have:j=64:=by omega
          subst this
          exfalso; apply hne; rw [hw]
          exact Int.ediv_eq_zero_of_lt hb.1 hb.2
      have hbit:=word_bit hf hj64 hw
      rw [bnd_one hw0.1 hw0.2,shr_one,e1]
      refine ifP_eq (fun h1=>⟨rfl,ifP_dec (fun hge=>?_) (fun hlt=>?_)⟩) (fun h1=>?_)
      · refine ifP_pos rfl (ifP_neg (by simp) ⟨rfl,?_⟩)
        rw [nextS_some (p:=at') (by rw [ha]; exact hbit.2 h1) hge (fun q hq hnq=>h5 q (by omega) hnq)] at hQ
        exact hQ
      · refine ifP_neg rfl (hnx _ ⟨j+1,by omega,rfl,word_half hw,rfl,fun q hq hnq=>?_⟩ (by simp only; omega))
        rcases Int.lt_or_le q (64*(k:Int)+j) with h | h
        · exact h5 q h hnq
        · omega
      · refine hnx _ ⟨j+1,by omega,rfl,word_half hw,rfl,fun q hq hnq=>?_⟩ (by simp only; omega)
        rcases Int.lt_or_le q (64*(k:Int)+j) with h | h
        · exact h5 q h hnq
        · have:q=64*(k:Int)+j:=by omega
          subst this
          cases hc:hasF f (64*(k:Int)+j) with
          | false=>rfl
          | true=>exact absurd (hbit.1 hc) h1
    · refine hn (_,0) ⟨rfl,fun q hq hnq=>?_⟩
      rcases Int.lt_or_le q (64*(k:Int)+j) with h | h
      · exact h5 q h hnq
      · obtain ⟨m,rfl⟩:∃ m:Nat,q=64*(k:Int)+m:=⟨(q - 64*k).toNat,by omega⟩
        exact word_zero hf (j:=j) (by omega) (by omega) hw he
  · obtain ⟨s1,s2⟩:=s
    obtain ⟨h1,h2⟩:=hs
    simp only at h1 h2 ⊢
    subst h1
    refine ifP_dec (fun h=>by omega) (fun _=>ifP_pos rfl ?_)
    rw [nextS_none] at hQ
    · exact hQ
    · intro q hq
      rcases Int.lt_or_le q (64*(f.length:Int)) with h | h
      · exact h2 q h hq
      · exact hasF_over h
theorem nextS_neg {f:List Int} {n:Int} (h0:0≤n):nextS f n<0↔∀ i∈listF f,i<n:=by
  unfold nextS
  cases hc:(listF f).find? fun i=>decide (n≤i) with
  | none=>
    rw [List.find?_eq_none] at hc
    simp only [Option.getD_none]
    exact ⟨fun _ i hi=>by have:=hc i hi; simp at this; omega,fun _=>by omega⟩
  | some q=>
    have hq:=List.find?_some hc
    have hm:=List.mem_of_find?_eq_some hc
    have hq:=of_decide_eq_true hq
    simp only [Option.getD_some]
    exact ⟨fun h=>by omega,fun h=>by have:=h q hm; omega⟩
theorem flags_Right_ok {f:List Int} {n:Int} {Q:Bool→Prop} (hf:okF f) (hl:f.length≤1000000) (hQ:Q (decide (rightF f n))):flags_Right f n Q:=by
  unfold flags_Right
  have hno:¬rightF f n→Q false:=fun h=>by rwa [decide_eq_false h] at hQ
  refine ifP_dec (fun h0=>ifP_dec (fun h1=>flags_words_ok (ifP_eq (fun h2=>flags_Next_ok hf hl ?_) (fun h2=>hno fun h=>h2 (by rw [h.2.1])))) (fun h1=>hno fun h=>h1 h.1.2)) (fun h0=>hno fun h=>h0 h.1.1)
  have:decide (nextS f n<0)=decide (rightF f n):=decide_eq_decide.2 (by
    rw [nextS_neg h0]
    exact ⟨fun h=>⟨⟨h0,h1⟩,by omega,h⟩,fun h=>h.2.2⟩)
  rw [this]; exact hQ
def okO (o:Option Wide):Prop:=∀ w,o=some w→okW w
theorem lkI_iff {l:List Item} (h:IncI l) {i a:Int}:lkI l i=some a↔(⟨i,a⟩:Item)∈l:=⟨lkI_mem,fun hm=>mem_lkI h hm⟩
theorem opt_ext {x y:Option Int} (h:∀ a,x=some a↔y=some a):x=y:=by
  cases x with
  | none=>cases y with
    | none=>rfl
    | some b=>have:=(h b).2 rfl; cases this
  | some a=>exact ((h a).1 rfl).symm
end Go.Proofs.YtaefnmlbnkmahaaGreat
