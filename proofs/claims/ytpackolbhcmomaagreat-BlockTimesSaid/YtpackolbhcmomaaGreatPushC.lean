import Derived.Test.YtpackolbhcmomaaGreatPushA
namespace Go.Proofs.YtpackolbhcmomaaGreat
open Go Go.Fw
set_option linter.unusedVariables false
set_option linter.unusedSimpArgs false
def kvM (s:Sum):Int×Wide:=(s.At,s.Val)
def lk (l:List Sum) (i:Int):Option Wide:=mget i (l.map kvM)
def Rise (l:List Sum):Prop:=l.Pairwise fun a b=>a.At<b.At
instance (l:List Sum):Decidable (Rise l):=by unfold Rise; infer_instance
def okS (l:List Sum):Prop:=∀ s∈l,okW s.Val
theorem lk_nil (i:Int):lk [] i=none:=rfl
theorem lk_cons (s:Sum) (l:List Sum) (i:Int):lk (s :: l) i=if i=s.At then some s.Val else lk l i:=rfl
theorem lk_none:∀ {l:List Sum} {i:Int},(∀ s∈l,s.At≠i)→lk l i=none
  | [],_,_=>rfl
  | s :: l,i,h=>by rw [lk_cons,if_neg (fun e=>h s (by simp) e.symm)]; exact lk_none fun x hx=>h x (by simp [hx])
theorem lk_mem:∀ {l:List Sum} {i:Int} {v:Wide},lk l i=some v→⟨i,v⟩∈l
  | s :: l,i,v,h=>by
    rw [lk_cons] at h
    split at h
    · rename_i e; cases h; subst e; simp
    · exact List.mem_cons_of_mem _ (lk_mem h)
theorem mem_lk:∀ {l:List Sum} (h:Rise l) {s:Sum},s∈l→lk l s.At=some s.Val
  | x :: l,h,s,hs=>by
    unfold Rise at h
    rw [List.pairwise_cons] at h
    rw [lk_cons]
    rcases List.mem_cons.1 hs with e | hs
    · subst e; rw [if_pos rfl]
    · have:=h.1 s hs
      rw [if_neg (by omega)]; exact mem_lk h.2 hs
theorem lk_append:∀ (l:List Sum) (m:List Sum) (i:Int),lk (l++m) i=match lk l i with | some v=>some v | none=>lk m i
  | [],m,i=>rfl
  | s :: l,m,i=>by
    rw [List.cons_append,lk_cons,lk_cons]
    split
    · rfl
    · exact lk_append l m i
theorem rise_ext {l m:List Sum} (h:Rise l) (h':Rise m) (he:∀ i,lk l i=lk m i):l=m:=by
  have nd:∀ {l:List Sum},Rise l→l.Nodup:=fun h=>h.imp fun hab e=>by subst e; omega
  have hp:l.Perm m:=(List.perm_ext_iff_of_nodup (nd h) (nd h')).2 fun s=>⟨fun hs=>by
    have:=mem_lk h hs; rw [he] at this; exact lk_mem this,fun hs=>by
    have:=mem_lk h' hs; rw [←he] at this; exact lk_mem this⟩
  exact sorted_eq hp h h' fun a b _ _ h1 h2=>by omega
theorem rise_adj {l:List Sum} (h:∀ (i:Nat) (hi:i+1<l.length),l[i].At<l[i+1].At):Rise l:=by
  unfold Rise
  rw [List.pairwise_iff_getElem]
  intro i j hi hj hij
  obtain ⟨d,rfl⟩:∃ d,j=i+1+d:=⟨j - i - 1,by omega⟩
  induction d with
  | zero=>exact h i (by omega)
  | succ d ih=>have h1:=ih (by omega) (by omega); have h2:=h (i+1+d) (by omega); exact Int.lt_trans h1 h2
theorem Rise.adj {l:List Sum} (h:Rise l) {i j:Nat} (hj:j<l.length) (hij:i<j):(l[i]'(by omega)).At<l[j].At:=by
  unfold Rise at h; rw [List.pairwise_iff_getElem] at h; exact h i j (by omega) hj hij
def cmb (r:Int):Option Wide→Option Wide→Option Wide
  | none,y=>y
  | some a,none=>some a
  | some a,some b=>some (addW r a b)
theorem cmb_none (r:Int) (a:Option Wide):cmb r a none=a:=by cases a <;> rfl
def bothS (r:Int) (a b:List Sum):List Sum:=
  match a,b with
  | [],b=>b
  | x :: a,[]=>x :: a
  | x :: a,y :: b=>if x.At<y.At then x :: bothS r a (y :: b) else if y.At<x.At then y :: bothS r (x :: a) b else ⟨x.At,addW r x.Val y.Val⟩ :: bothS r a b
termination_by a.length+b.length
theorem both_nil (r:Int) (a:List Sum):bothS r a []=a:=by cases a <;> simp [bothS]
theorem both_at (r:Int):∀ (a b:List Sum) (s:Sum),s∈bothS r a b→(∃ x∈a,x.At=s.At)∨∃ x∈b,x.At=s.At
  | [],b,s,h=>.inr ⟨s,by simpa [bothS] using h,rfl⟩
  | x :: a,[],s,h=>.inl ⟨s,by simpa [bothS] using h,rfl⟩
  | x :: a,y :: b,s,h=>by
    rw [bothS] at h
    split at h
    · rcases List.mem_cons.1 h with e | h
      · exact .inl ⟨x,by simp,by rw [e]⟩
      · rcases both_at r a (y :: b) s h with ⟨z,hz,e⟩ | ⟨z,hz,e⟩
        · exact .inl ⟨z,by simp [hz],e⟩
        · exact .inr ⟨z,hz,e⟩
    · split at h
      · rcases List.mem_cons.1 h with e | h
        · exact .inr ⟨y,by simp,by rw [e]⟩
        · rcases both_at r (x :: a) b s h with ⟨z,hz,e⟩ | ⟨z,hz,e⟩
          · exact .inl ⟨z,hz,e⟩
          · exact .inr ⟨z,by simp [hz],e⟩
      · rcases List.mem_cons.1 h with e | h
        · exact .inl ⟨x,by simp,by rw [e]⟩
        · rcases both_at r a b s h with ⟨z,hz,e⟩ | ⟨z,hz,e⟩
          · exact .inl ⟨z,by simp [hz],e⟩
          · exact .inr ⟨z,by simp [hz],e⟩
termination_by a b=>a.length+b.length
theorem both_prop (r:Int):∀ (a b:List Sum),Rise a→Rise b→Rise (bothS r a b)∧(bothS r a b).length≤a.length+b.length∧(okS a→okS b→okS (bothS r a b))∧∀ i,lk (bothS r a b) i=cmb r (lk a i) (lk b i)
  | [],b,_,hb=>by simp only [bothS]; exact ⟨hb,by simp,fun _ h=>h,fun i=>rfl⟩
  | x :: a,[],ha,_=>by rw [both_nil]; exact ⟨ha,by simp,fun h _=>h,fun i=>by rw [lk_nil,cmb_none]⟩
  | x :: a,y :: b,ha,hb=>by
    have ha':=ha; have hb':=hb
    unfold Rise at ha' hb'
    rw [List.pairwise_cons] at ha' hb'
    rw [bothS]
    split
    · rename_i hlt
      obtain ⟨h1,h2,h3,h4⟩:=both_prop r a (y :: b) ha'.2 hb
      refine ⟨List.pairwise_cons.2 ⟨fun s hs=>?_,h1⟩,by simp at h2 ⊢; omega,fun q1 q2 s hs=>?_,fun i=>?_⟩
      · rcases both_at r a (y :: b) s hs with ⟨z,hz,e⟩ | ⟨z,hz,e⟩
        · rw [←e]; exact ha'.1 z hz
        · rw [←e]; rcases List.mem_cons.1 hz with e' | hz
          · rw [e']; exact hlt
          · have:=hb'.1 z hz; omega
      · rcases List.mem_cons.1 hs with e | hs
        · subst e; exact q1 _ (by simp)
        · exact h3 (fun s hs=>q1 s (by simp [hs])) q2 s hs
      · rw [lk_cons,lk_cons x a]
        split
        · rename_i e; subst e
          rw [lk_none (l := y :: b) (fun s hs => by rcases List.mem_cons.1 hs with e | hs
                                                    · subst e; omega
                                                    · have:=hb'.1 s hs; omega)]
          rfl
        · exact h4 i
    · rename_i hlt
      split
      · rename_i hlt'
        obtain ⟨h1,h2,h3,h4⟩:=both_prop r (x :: a) b ha hb'.2
        refine ⟨List.pairwise_cons.2 ⟨fun s hs=>?_,h1⟩,by simp at h2 ⊢; omega,fun q1 q2 s hs=>?_,fun i=>?_⟩
        · rcases both_at r (x :: a) b s hs with ⟨z,hz,e⟩ | ⟨z,hz,e⟩
          · rw [←e]; rcases List.mem_cons.1 hz with e' | hz
            · rw [e']; exact hlt'
            · have:=ha'.1 z hz; omega
          · rw [←e]; exact hb'.1 z hz
        · rcases List.mem_cons.1 hs with e | hs
          · subst e; exact q2 _ (by simp)
          · exact h3 q1 (fun s hs=>q2 s (by simp [hs])) s hs
        · rw [lk_cons,lk_cons y b]
          split
          · rename_i e; subst e
            rw [lk_none (l := x :: a) (fun s hs => by rcases List.mem_cons.1 hs with e | hs
                                                      · subst e; omega
                                                      · have:=ha'.1 s hs; omega)]
            rfl
          · exact h4 i
      · rename_i hlt'
        have exy:x.At=y.At:=by omega
        obtain ⟨h1,h2,h3,h4⟩:=both_prop r a b ha'.2 hb'.2
        refine ⟨List.pairwise_cons.2 ⟨fun s hs=>?_,h1⟩,by simp at h2 ⊢; omega,fun q1 q2 s hs=>?_,fun i=>?_⟩
        · rcases both_at r a b s hs with ⟨z,hz,e⟩ | ⟨z,hz,e⟩
          · rw [←e]; exact ha'.1 z hz
          · rw [←e]; have:=hb'.1 z hz; show x.At<z.At; omega
        · rcases List.mem_cons.1 hs with e | hs
          · subst e; exact addW_okW (q1 _ (by simp)) (q2 _ (by simp))
          · exact h3 (fun s hs=>q1 s (by simp [hs])) (fun s hs=>q2 s (by simp [hs])) s hs
        · rw [lk_cons,lk_cons x a,lk_cons y b,←exy]
          split
          · rfl
          · exact h4 i
termination_by a b=>a.length+b.length
def foldR (r:Int) (R:Nat→List Sum) (i:Int):Nat→Option Wide→Option Wide
  | 0,a=>a
  | n+1,a=>cmb r (foldR r R i n a) (lk (R n) i)
def mergeS (r:Int) (L:List (List Sum)):List Sum:=L.foldl (bothS r) []
def total (L:List (List Sum)):Nat:=(L.map List.length).foldr (· + ·) 0
theorem merge_prop (r:Int):∀ (L:List (List Sum)),(∀ l∈L,Rise l)→∀ n,n≤L.length →
    Rise (mergeS r (L.take n))∧(mergeS r (L.take n)).length≤total (L.take n)∧((∀ l∈L,okS l)→okS (mergeS r (L.take n)))∧∀ i,lk (mergeS r (L.take n)) i=foldR r (fun w=>L.getD w []) i n none:=by
  intro L hL n
  induction n with
  | zero=>intro _; simp [mergeS,Rise,total,okS,lk_nil,foldR]
  | succ n ih=>
    intro hn
    obtain ⟨h1,h2,h3,h4⟩:=ih (by omega)
    have e:L.take (n+1)=L.take n++[L[n]]:=List.take_succ_eq_append_getElem (by omega)
    have em:mergeS r (L.take (n+1))=bothS r (mergeS r (L.take n)) L[n]:=by unfold mergeS; rw [e,List.foldl_append]; rfl
    have et:total (L.take (n+1))=total (L.take n)+L[n].length:=by
      rw [e]; unfold total
      induction (L.take n) with
      | nil=>simp
      | cons a l ih=>simp only [List.cons_append,List.map_cons,List.foldr_cons,ih]; omega
    obtain ⟨g1,g2,g3,g4⟩:=both_prop r (mergeS r (L.take n)) L[n] h1 (hL _ (List.getElem_mem _))
    rw [em,et]
    refine ⟨g1,by omega,fun q=>g3 (h3 q) (q _ (List.getElem_mem _)),fun i=>?_⟩
    rw [g4,h4]
    simp [foldR,List.getD_eq_getElem?_getD,show n<L.length by omega]
theorem foldR_none {r:Int} {R:Nat→List Sum} {i:Int} {a:Option Wide}:∀ {n:Nat},(∀ w,w<n→lk (R w) i=none)→foldR r R i n a=a
  | 0,_=>rfl
  | n+1,h=>by rw [foldR,foldR_none (fun w hw=>h w (by omega)),h n (by omega),cmb_none]
theorem foldR_congr {r:Int} {R R':Nat→List Sum} {i:Int} {a:Option Wide}:∀ {n:Nat},(∀ w,w<n→lk (R w) i=lk (R' w) i)→foldR r R i n a=foldR r R' i n a
  | 0,_=>rfl
  | n+1,h=>by rw [foldR,foldR,foldR_congr (fun w hw=>h w (by omega)),h n (by omega)]
def upd (R:Nat→List Sum) (w:Nat) (l:List Sum):Nat→List Sum:=fun k=>if k=w then l else R k
theorem foldR_step {r:Int} {R:Nat→List Sum} {i:Int} {a:Option Wide} {w:Nat} {v:Wide} {t:List Sum} (h0:∀ k,k<w→lk (R k) i=none) (h1:lk (R w) i=some v) (h2:lk t i=none) :
    ∀ {n:Nat},w<n→foldR r (upd R w t) i n (cmb r a (some v))=foldR r R i n a
  | 0,h=>by omega
  | n+1,h=>by
    rw [foldR,foldR]
    by_cases e:n=w
    · subst e
      rw [foldR_none (fun k hk=>by rw [upd,if_neg (by omega)]; exact h0 k hk),foldR_none h0,upd,if_pos rfl,h1,h2,cmb_none]
    · rw [foldR_step h0 h1 h2 (by omega),upd,if_neg e]
def headsR (R:Nat→List Sum):Nat→List Push_head
  | 0=>[]
  | n+1=>if R n=[] then headsR R n else ⟨R n,n⟩ :: headsR R n
theorem hs_mem {R:Nat→List Sum} {h:Push_head}:∀ {n:Nat},h∈headsR R n↔∃ w,w<n∧R w≠[]∧h=⟨R w,w⟩
  | 0=>by simp [headsR]
  | n+1=>by
    rw [headsR]
    split
    · rename_i e; rw [hs_mem (n:=n)]
      constructor
      · rintro ⟨w,h1,h2⟩; exact ⟨w,by omega,h2⟩
      · rintro ⟨w,h1,h2,h3⟩
        refine ⟨w,?_,h2,h3⟩
        rcases Nat.lt_or_ge w n with g | g
        · exact g
        · have:w=n:=by omega
          subst this; exact absurd e h2
    · rename_i e; rw [List.mem_cons,hs_mem (n:=n)]
      constructor
      · rintro (h1 | ⟨w,h1,h2⟩)
        · exact ⟨n,by omega,e,h1⟩
        · exact ⟨w,by omega,h2⟩
      · rintro ⟨w,h1,h2,h3⟩
        rcases Nat.lt_or_ge w n with g | g
        · exact .inr ⟨w,g,h2,h3⟩
        · have:w=n:=by omega
          subst this; exact .inl h3
theorem hs_congr {R R':Nat→List Sum}:∀ {n:Nat},(∀ w,w<n→R w=R' w)→headsR R n=headsR R' n
  | 0,_=>rfl
  | n+1,h=>by rw [headsR,headsR,h n (by omega),hs_congr fun w hw=>h w (by omega)]
theorem hs_len (R:Nat→List Sum):∀ n,(headsR R n).length≤n
  | 0=>by simp [headsR]
  | n+1=>by rw [headsR]; have:=hs_len R n; split <;> simp <;> omega
theorem hs_upd {R:Nat→List Sum} {w:Nat} {l:List Sum}:∀ {n:Nat},w<n→(headsR (upd R w l) n).Perm (if l=[] then headsR (upd R w []) n else ⟨l,w⟩ :: headsR (upd R w []) n)
  | 0,h=>by omega
  | n+1,h=>by
    by_cases e:n=w
    · subst e
      rw [headsR,headsR]
      have e1:headsR (upd R n l) n=headsR (upd R n []) n:=hs_congr fun k hk=>by rw [upd,upd,if_neg (by omega),if_neg (by omega)]
      simp only [upd,if_true,e1]
      split
      · exact .refl _
      · rw [←e1]
    · have ih:=hs_upd (R:=R) (l:=l) (n:=n) (w:=w) (by omega)
      rw [headsR,headsR]
      have e1:upd R w l n=R n:=by rw [upd,if_neg e]
      have e2:upd R w [] n=R n:=by rw [upd,if_neg e]
      rw [e1,e2]
      split
      · exact ih
      · split at ih
        · rename_i e3; rw [if_pos e3]; exact ih.cons _
        · rename_i e3; rw [if_neg e3]; exact (ih.cons _).trans (List.Perm.swap _ _ _)
theorem upd_same (R:Nat→List Sum) (w:Nat):upd R w (R w)=R:=by funext k; unfold upd; split <;> simp_all
def sumR (R:Nat→List Sum):Nat→Nat
  | 0=>0
  | n+1=>sumR R n+(R n).length
theorem sumR_upd {R:Nat→List Sum} {w:Nat} {s:Sum} {t:List Sum} (h:R w=s :: t):∀ {n:Nat},w<n→sumR R n=sumR (upd R w t) n+1
  | 0,h'=>by omega
  | n+1,h'=>by
    rw [sumR,sumR]
    by_cases e:n=w
    · subst e
      have e1:∀ k,k≤n→sumR (upd R n t) k=sumR R k:=by
        intro k
        induction k with
        | zero=>intro _; rfl
        | succ k ih=>intro hk; rw [sumR,sumR,ih (by omega),upd,if_neg (by omega)]
      rw [e1 n (by omega),upd,if_pos rfl,h]; simp; omega
    · rw [sumR_upd h (n:=n) (by omega),upd,if_neg e]; omega
theorem eqSum_ok {xs ys:List Sum} {Q:Bool→Prop} (hl:xs.length≤1000000000000) (hQ:Q (decide (xs=ys))):ref13_SameSums xs ys Q:=by unfold ref13_SameSums; exact same_loop hl hQ
def la (out:List Sum):Sum:=out.getD (out.length - 1) default
def outS (r:Int) (out:List Sum) (s:Sum):List Sum:=if 0<out.length∧(la out).At=s.At then out.set (out.length - 1) ⟨(la out).At,addW r (la out).Val s.Val⟩ else out++[s]
theorem la_concat (p:List Sum) (y:Sum):la (p++[y])=y:=by simp [la]
theorem outS_concat (r:Int) (p:List Sum) (y s:Sum):outS r (p++[y]) s=if y.At=s.At then p++[⟨y.At,addW r y.Val s.Val⟩] else p++[y]++[s]:=by
  unfold outS
  rw [la_concat]
  by_cases e:y.At=s.At
  · rw [if_pos ⟨by simp,e⟩,if_pos e]
    simp
  · rw [if_neg (fun h=>e h.2),if_neg e]
theorem concat_cases (l:List Sum):l=[]∨∃ p y,l=p++[y]:=by
  rcases List.eq_nil_or_concat l with h | ⟨p,y,h⟩
  · exact .inl h
  · exact .inr ⟨p,y,by rw [h,List.concat_eq_append]⟩
theorem outS_prop {r:Int} {out:List Sum} {s:Sum} (h:Rise out) (ho:okS out) (hs:okW s.Val) (hle:∀ o∈out,o.At≤s.At) :
    Rise (outS r out s)∧okS (outS r out s)∧(outS r out s).length≤out.length+1∧(∀ o∈outS r out s,o.At≤s.At)∧(∀ i,lk (outS r out s) i=if i=s.At then cmb r (lk out i) (some s.Val) else lk out i):=by
  rcases concat_cases out with e | ⟨p,y,e⟩
  · subst e
    have:outS r [] s=[s]:=by simp [outS]
    rw [this]
    exact ⟨by simp [Rise],by simpa [okS] using hs,by simp,by simp,fun i=>by rw [lk_cons]; rfl⟩
  · subst e
    rw [outS_concat]
    have hp:∀ x∈p,x.At<y.At:=by
      intro x hx
      unfold Rise at h; rw [List.pairwise_append] at h
      exact h.2.2 x hx y (by simp)
    have hpr:Rise p:=by unfold Rise at h; rw [List.pairwise_append] at h; exact h.1
    have hyl:y.At≤s.At:=hle y (by simp)
    split
    · rename_i e
      refine ⟨List.pairwise_append.2 ⟨hpr,by simp,fun a ha b hb=>by simp only [List.mem_singleton] at hb; subst hb; exact hp a ha⟩,?_,by simp,?_,fun i=>?_⟩
      · intro x hx
        rcases List.mem_append.1 hx with hx | hx
        · exact ho x (by simp [hx])
        · simp only [List.mem_singleton] at hx; subst hx; exact addW_okW (ho y (by simp)) hs
      · intro x hx
        rcases List.mem_append.1 hx with hx | hx
        · have:=hp x hx; omega
        · simp only [List.mem_singleton] at hx; subst hx; exact hyl
      · rw [lk_append,lk_append,lk_cons,lk_cons,←e]
        simp only
        split
        · rename_i v hv
          rw [if_neg]
          intro e'; subst e'
          rw [lk_none (fun x hx=>by have:=hp x hx; omega)] at hv; cases hv
        · split <;> rfl
    · rename_i e
      have hlt:∀ x∈p++[y],x.At<s.At:=by
        intro x hx
        rcases List.mem_append.1 hx with hx | hx
        · have:=hp x hx; omega
        · simp only [List.mem_singleton] at hx; subst hx; omega
      refine ⟨List.pairwise_append.2 ⟨h,by simp,fun a ha b hb=>by simp only [List.mem_singleton] at hb; subst hb; exact hlt a ha⟩,?_,by simp,?_,fun i=>?_⟩
      · intro x hx
        rcases List.mem_append.1 hx with hx | hx
        · exact ho x hx
        · simp only [List.mem_singleton] at hx; subst hx; exact hs
      · intro x hx
        rcases List.mem_append.1 hx with hx | hx
        · have:=hlt x hx; omega
        · simp only [List.mem_singleton] at hx; subst hx; omega
      · rw [lk_append _ [s],lk_cons]
        by_cases ei:i=s.At
        · subst ei
          rw [if_pos rfl,if_pos rfl,lk_none (fun x hx=>by have:=hlt x hx; omega)]; rfl
        · rw [if_neg ei,if_neg ei,lk_nil]
          split <;> simp_all
theorem next_ok {o:Push_merger} {s:Sum} {t:List Sum} {Q:Push_merger→Prop} (hl:o.heads.length≤1000000000) (hf:full o.heads) (hh:Heap o.heads o.heads.length) (h0:o.heads≠[]) (hol:o.out.length≤1000000000)
    (ho:okS o.out) (hs:okW s.Val) (hx:(gH o.heads 0).l=s :: t)
    (hQ:∀ H H',(gH o.heads 0 :: H').Perm o.heads→H.Perm (if t=[] then H' else ⟨t,(gH o.heads 0).which⟩ :: H')→Heap H H.length→Q ⟨H,o.r,outS o.r o.out s⟩):push_merger_next_d58 o Q:=by
  unfold push_merger_next_d58
  have hlen:0<o.heads.length:=List.length_pos_iff.2 h0
  refine idxP_intro (x:=gH o.heads 0) (by omega) (gH_get hlen) (pop_ok hl hf hh h0 fun x H' hp hH=>?_)
  rw [hx]
  refine idxP_intro (x:=s) (by omega) rfl ⟨by omega,by simp; omega,by omega,?_⟩
  have et:((s :: t).take (((s :: t).length:Nat):Int).toNat).drop (Int.toNat 1)=t:=by simp
  rw [et]
  have hf':full H':=fun y hy=>hf y (hp.mem_iff.1 (List.mem_cons_of_mem _ hy))
  have hlH:H'.length≤o.heads.length:=by have:=hp.length_eq; simp at this; omega
  refine put_ok (o:=⟨H',o.r,o.out⟩) (by simp only; omega) hf' hH fun H hpH hHH=>?_
  have hQ':=hQ H H' hp hpH hHH
  simp only
  have key:∀ b,(b=true↔(0<o.out.length∧(la o.out).At=s.At))→(fun s216=>ifP s216 (idxP o.out (w64 ((o.out.length:Int) - 1)) fun x234=>ring_Add o.r x234.Val s.Val fun r238=>idxP o.out (w64 ((o.out.length:Int) - 1)) fun x243=>Q ({ heads:=H,r:=o.r,out:=(o.out.set ((w64 ((o.out.length:Int) - 1)).toNat) ({ At:=x243.At,Val:=r238 }:Sum)) }:Push_merger)) (appP 24 o.out ([s]) fun _=>Q ({ heads:=H,r:=o.r,out:=(o.out++([s])) }:Push_merger))) b:=by
    intro b hb
    refine ⟨fun h=>?_,fun h=>?_⟩
    · have hc:=hb.1 h
      have e:w64 ((o.out.length:Int) - 1)=((o.out.length - 1:Nat):Int):=by rw [w64_id (by omega) (by omega)]; omega
      have hg:o.out[((o.out.length - 1:Nat):Int).toNat]? = some (la o.out):=by
        simp only [Int.toNat_natCast,la,List.getD_eq_getElem?_getD,show o.out.length - 1<o.out.length by omega,List.getElem?_eq_getElem,Option.getD_some]
      rw [e]
      refine idxP_intro (by omega) hg (ring_Add_ok (ho _ (List.mem_of_getElem? hg)) hs (idxP_intro (by omega) hg ?_))
      rw [outS,if_pos hc] at hQ'
      simpa only [Int.toNat_natCast] using hQ'
    · have hc:¬(0<o.out.length∧(la o.out).At=s.At):=fun h'=>by rw [hb.2 h'] at h; cases h
      refine appP_intro (by simp; omega) ?_
      rw [outS,if_neg hc] at hQ'
      exact hQ'
  refine join_intro (fun b:Bool=>b=true↔(0<o.out.length∧(la o.out).At=s.At)) (fun b hb=>key b hb) fun k' hk'=>?_
  refine ifP_dec (fun h=>?_) (fun h=>?_)
  · have e:w64 ((o.out.length:Int) - 1)=((o.out.length - 1:Nat):Int):=by rw [w64_id (by omega) (by omega)]; omega
    have hg:o.out[((o.out.length - 1:Nat):Int).toNat]? = some (la o.out):=by
      simp only [Int.toNat_natCast,la,List.getD_eq_getElem?_getD,show o.out.length - 1<o.out.length by omega,List.getElem?_eq_getElem,Option.getD_some]
    rw [e]
    exact idxP_intro (by omega) hg (hk' _ (by simp; omega))
  · exact hk' _ (by simp; omega)
theorem rises_ok {l:List Sum} {Q:Bool→Prop} (hl:l.length≤1000000000) (hQ:Q (decide (Rise l))):push_rises l Q:=by
  unfold push_rises
  refine scan_intro l.length (by omega) (fun n=>∀ (i:Nat) (hi:i+1<l.length),i+1<n→l[i].At<l[i+1].At) (fun i hi h=>by omega) (fun i next hi hR hn=>?_) (fun next hR=>?_)
  · refine ifP_dec (fun _=>ifP_dec (fun h=>?_) (fun h=>?_)) (fun h=>by omega)
    · have e:w64 ((i:Int) - 1)=((i - 1:Nat):Int):=by rw [w64_id (by omega) (by omega)]; omega
      rw [e]
      refine idxP_nat (by omega) (idxP_nat hi (ifP_dec (fun h'=>?_) (fun h'=>hn fun j hj hjn=>?_)))
      · have:¬Rise l:=fun hr=>by have:=hr.adj hi (i:=i - 1) (by omega); omega
        rw [decide_eq_false this] at hQ; exact hQ
      · by_cases e':j+1=i
        · subst e'; simp only [Nat.add_sub_cancel] at h'; omega
        · exact hR j hj (by omega)
    · exact hn fun j hj hjn=>by omega
  · refine ifP_dec (fun h=>by omega) (fun _=>?_)
    rw [decide_eq_true (rise_adj fun i hi=>hR i hi (by omega))] at hQ; exact hQ
theorem falls_ok {L:List (List Sum)} {Q:Bool→Prop} (hl:L.length≤1000000000) (hs:∀ l∈L,l.length≤1000000000) (hQ:Q (decide (∃ l∈L,¬Rise l))):slices_ContainsFunc_api_Sum_api_Sum_bfd L Q:=by
  unfold slices_ContainsFunc_api_Sum_api_Sum_bfd slices_IndexFunc_api_Sum_api_Sum_acf
  refine scan_intro L.length (by omega) (fun n=>∀ i (hi:i<L.length),i<n→Rise L[i]) (fun i hi h=>by omega) (fun i next hi hR hn=>?_) (fun next hR=>?_)
  · refine ifP_dec (fun _=>idxP_nat hi ?_) (fun h=>by omega)
    unfold push_Merge_1_d96
    refine rises_ok (hs _ (List.getElem_mem hi)) (ifP_not (fun h=>?_) (fun h=>?_))
    · have hn':=of_decide_eq_false h
      rw [decide_eq_true ⟨_,List.getElem_mem hi,hn'⟩] at hQ
      simpa using hQ
    · refine hn fun j hj hjn=>?_
      by_cases e:j=i
      · subst e; exact of_decide_eq_true h
      · exact hR j hj (by omega)
  · refine ifP_dec (fun h=>by omega) (fun _=>?_)
    have:¬ ∃ l∈L,¬Rise l:=by
      rintro ⟨l,hl',hn⟩
      obtain ⟨i,hi,rfl⟩:=List.mem_iff_getElem.1 hl'
      exact hn (hR i hi hi)
    rw [decide_eq_false this] at hQ
    simpa using hQ
def tot (H:List Push_head):Nat:=(H.map fun h=>h.l.length).sum
theorem tot_perm {H H':List Push_head} (h:H.Perm H'):tot H=tot H':=(h.map _).sum_nat
theorem tot_hs (R:Nat→List Sum):∀ n,tot (headsR R n)=sumR R n
  | 0=>rfl
  | n+1=>by
    rw [headsR,sumR]
    split
    · rename_i e; rw [tot_hs R n,e]; simp
    · have:=tot_hs R n; unfold tot at *; simp only [List.map_cons,List.sum_cons,this]; omega
theorem hs_full (R:Nat→List Sum) (n:Nat):full (headsR R n):=by
  intro h hh
  obtain ⟨w,_,h1,rfl⟩:=hs_mem.1 hh
  exact h1
theorem heap_nil:Heap [] 0:=fun j _ h=>by omega
theorem takes_ok {r:Int} {n:Nat} {R0:Nat→List Sum} {H0:List Push_head} {Q:List Sum×Int→Prop} {out:List Sum} (hr:1≤r∧r≤5) (hn:n≤1000000000) (hN:sumR R0 n≤1000000000)
    (hp0:H0.Perm (headsR R0 n)) (hH0:Heap H0 H0.length) (hR0:∀ w,w<n→Rise (R0 w)∧okS (R0 w)) (ho1:Rise out) (ho3:∀ i,lk out i=foldR r R0 i n none) (hQ:Q (out,0)) :
    loopP (fun (s:(List Push_head)×Int×(List Sum)) (next421:((List Push_head)×Int×(List Sum))→Prop)=>match s with | (s412,s416,s417)=>push_heads_Len s412 fun r427=>ifP (decide (0<r427)) (push_merger_next_d58 ({ heads:=s412,r:=s416,out:=s417 }:Push_merger) fun r438=>next421 (r438.heads,r438.r,r438.out)) (Q (s417,0))) (H0,r,[]):=by
  refine loop_intro (fun s:List Push_head×Int×List Sum=>∃ R,s.1.Perm (headsR R n)∧Heap s.1 s.1.length∧s.2.1=r∧Rise s.2.2∧okS s.2.2∧s.2.2.length+sumR R n≤1000000000∧(∀ w,w<n→Rise (R w)∧okS (R w)∧∀ x∈R w,∀ o∈s.2.2,o.At≤x.At)∧∀ i,foldR r R i n (lk s.2.2 i)=foldR r R0 i n none) (fun s=>tot s.1)
    ⟨R0,hp0,hH0,rfl,by simp [Rise],by simp [okS],by simpa using hN,fun w hw=>⟨(hR0 w hw).1,(hR0 w hw).2,by simp⟩,fun i=>rfl⟩ ?_
  rintro ⟨H,r',o⟩ next ⟨R,hp,hH,e,h1,h2,h3,h4,h5⟩ hnx
  simp only at hp hH e h1 h2 h3 h4 h5 ⊢
  subst e
  unfold push_heads_Len
  refine ifP_dec (fun hpos=>?_) (fun hz=>?_)
  · have hne:H≠[]:=by intro e; subst e; simp at hpos
    have hlen:0<H.length:=List.length_pos_iff.2 hne
    have hHl:H.length≤n:=hp.length_eq▸hs_len R n
    obtain ⟨w,hw,hRw,hx⟩:=hs_mem.1 (hp.mem_iff.1 (gH_mem hlen))
    obtain ⟨s,t,est⟩:=List.exists_cons_of_ne_nil hRw
    have hf:full H:=full_perm (hs_full R n) hp
    obtain ⟨q1,q2,q3⟩:=h4 w hw
    have hsok:okW s.Val:=q2 s (by rw [est]; simp)
    -- the least one
    have hmin:∀ k,k<n→∀ x∈R k,s.At≤x.At∧(k<w→s.At<x.At):=by
      intro k hk x hxk
      have hne':R k≠[]:=by intro e; rw [e] at hxk; simp at hxk
      have hmem:(⟨R k,k⟩:Push_head)∈H:=hp.mem_iff.2 (hs_mem.2 ⟨k,hk,hne',rfl⟩)
      obtain ⟨j,hj,ej⟩:=List.mem_iff_getElem.1 hmem
      have hroot:=heap_root hH j hj
      obtain ⟨y,z,eyz⟩:=List.exists_cons_of_ne_nil hne'
      have k1:hKey H j=(y.At,(k:Int)):=by
        have:gH H j=⟨R k,k⟩:=by have:=gH_get hj; rw [List.getElem?_eq_getElem hj,ej] at this; exact (Option.some.inj this).symm
        simp [hKey,hkey,this,eyz]
      have k0:hKey H 0=(s.At,(w:Int)):=by simp [hKey,hkey,hx,est]
      rw [k1,k0] at hroot
      have hyx:y.At≤x.At:=by
        have hrk:=(h4 k hk).1
        rw [eyz] at hxk hrk
        unfold Rise at hrk; rw [List.pairwise_cons] at hrk
        rcases List.mem_cons.1 hxk with e | hxz
        · subst e; omega
        · have:=hrk.1 x hxz; omega
      unfold ltK at hroot
      simp only at hroot
      refine ⟨by omega,fun hkw=>by omega⟩
    have hRt:Rise t∧∀ x∈t,s.At<x.At:=by rw [est] at q1; unfold Rise at q1; rw [List.pairwise_cons] at q1; exact ⟨q1.2,q1.1⟩
    have hole:∀ x∈o,x.At≤s.At:=fun x hxo=>q3 s (by rw [est]; simp) x hxo
    refine next_ok (o:=⟨H,r',o⟩) (s:=s) (t:=t) (by simp only; omega) hf hH hne (by simp only; omega) h2 hsok (by simp only; rw [hx]; exact est) fun H2 H' hp1 hp2 hH2=>?_
    simp only at hp1 hp2
    have hwh:(gH H 0).which=(w:Int):=by rw [hx]
    rw [hwh,hx] at *
    have hH':H'.Perm (headsR (upd R w []) n):=by
      have h6:(headsR R n).Perm (⟨R w,w⟩ :: headsR (upd R w []) n):=by
        have:=hs_upd (R:=R) (w:=w) (l:=R w) hw
        rwa [upd_same,if_neg hRw] at this
      exact List.Perm.cons_inv (hp1.trans (hp.trans h6))
    have hH2':H2.Perm (headsR (upd R w t) n):=by
      refine hp2.trans (List.Perm.trans ?_ (hs_upd (R:=R) (l:=t) hw).symm)
      split
      · exact hH'
      · exact hH'.cons _
    obtain ⟨p1,p2,p3,p4,p5⟩:=outS_prop (r:=r') h1 h2 hsok hole
    have hsum:=sumR_upd est hw
    refine hnx _ ⟨upd R w t,hH2',hH2,rfl,p1,p2,by simp only; omega,fun k hk=>?_,fun i=>?_⟩ ?_
    · unfold upd
      split
      · exact ⟨hRt.1,fun x hx=>q2 x (by rw [est]; simp [hx]),fun x hx y hy=>by have:=hRt.2 x hx; have:=p4 y hy; omega⟩
      · exact ⟨(h4 k hk).1,(h4 k hk).2.1,fun x hx y hy=>by have:=(hmin k hk x hx).1; have:=p4 y hy; omega⟩
    · simp only
      rw [p5,←h5]
      split
      · rename_i ei; subst ei
        refine foldR_step (fun k hk=>lk_none fun x hx=>?_) (by rw [est,lk_cons,if_pos rfl]) (lk_none fun x hx=>?_) hw
        · have:=(hmin k (by omega) x hx).2 hk; omega
        · have:=hRt.2 x hx; omega
      · rename_i ei
        refine foldR_congr fun k hk=>?_
        unfold upd
        split
        · rename_i e; subst e; rw [est,lk_cons,if_neg ei]
        · rfl
    · show tot H2<tot H
      rw [tot_perm hH2',tot_perm hp,tot_hs,tot_hs]; omega
  · have hH0':H=[]:=by
      cases H with
      | nil=>rfl
      | cons a b=>simp at hz
    subst hH0'
    have hno:∀ w,w<n→R w=[]:=by
      intro w hw
      by_cases e:R w=[]
      · exact e
      · have:=hp.mem_iff.2 (hs_mem.2 ⟨w,hw,e,rfl⟩); simp at this
    have:o=out:=rise_ext h1 ho1 fun i=>by
      rw [ho3,←h5,foldR_none]
      intro w hw; rw [hno w hw]; rfl
    subst this
    exact hQ
theorem total_sumR (L:List (List Sum)):∀ n,n≤L.length→sumR (fun w=>L.getD w []) n=total (L.take n):=by
  intro n
  induction n with
  | zero=>intro _; simp [sumR,total]
  | succ n ih=>
    intro hn
    rw [sumR,ih (by omega),List.take_succ_eq_append_getElem (by omega)]
    have:∀ (a:List (List Sum)) (b:List Sum),total (a++[b])=total a+b.length:=by
      intro a b; unfold total
      induction a with
      | nil=>simp
      | cons x a ih=>simp only [List.cons_append,List.map_cons,List.foldr_cons,ih]; omega
    rw [this]
    simp [List.getD_eq_getElem?_getD,show n<L.length by omega]
def mergeP (r:Int) (L:List (List Sum)):List Sum×Int:=if ¬(1≤r∧r≤5) then ([],8) else if ∃ l∈L,¬Rise l then ([],6) else (mergeS r L,0)
theorem push_merge_ok {r:Int} {L:List (List Sum)} {Q:List Sum×Int→Prop} (hL:L.length≤1000000) (hs':∀ l∈L,l.length≤1000000000) (hT:total L≤1000000000) (hok:∀ l∈L,okS l) (hQ:Q (mergeP r L)):push_Merge r L Q:=by
  unfold push_Merge
  unfold mergeP at hQ
  refine ring_Is_ok (ifP_not (fun h=>?_) (fun h=>?_))
  · rw [if_pos (of_decide_eq_false h)] at hQ; exact hQ
  · have hr:=of_decide_eq_true h
    rw [if_neg (by omega)] at hQ
    refine falls_ok (by omega) hs' ⟨fun h=>?_,fun h=>?_⟩
    · rw [if_pos (of_decide_eq_true h)] at hQ; exact hQ
    · have hrise:∀ l∈L,Rise l:=by
        have:=of_decide_eq_false h
        intro l hl
        by_cases e:Rise l
        · exact e
        · exact absurd ⟨l,hl,e⟩ this
      rw [if_neg (of_decide_eq_false h)] at hQ
      refine range_intro (s0:=(([]:List Push_head),r,([]:List Sum))) (fun (s:List Push_head×Int×List Sum) i=>(s.1,s.2.1,s.2.2,i)) 0 L.length (by omega) (fun i s=>s.1.Perm (headsR (fun w=>L.getD w []) i)∧Heap s.1 s.1.length∧s.2.1=r∧s.2.2=[]) (by omega) ⟨.refl _,heap_nil,rfl,rfl⟩ (fun i s next _ hi hm hn=>?_) (fun s next hm=>?_)
      · obtain ⟨H,r',o⟩:=s
        obtain ⟨h1,h2,h3,h4⟩:=hm
        simp only at h1 h2 h3 h4 ⊢
        subst h3; subst h4
        refine ifP_dec (fun _=>?_) (fun h=>by omega)
        have hlH:H.length≤i:=h1.length_eq▸hs_len _ i
        refine idxP_nat hi (put_ok (o:=⟨H,r',[]⟩) (by simp only; omega) (full_perm (hs_full _ i) h1) h2 fun H2 hp hH2=>?_)
        refine hn (H2,r',[]) ⟨hp.trans ?_,hH2,rfl,rfl⟩
        have e:L.getD i []=L[i]:=by simp [List.getD_eq_getElem?_getD,hi]
        simp only [headsR,e]
        split
        · exact h1
        · exact h1.cons _
      · obtain ⟨H,r',o⟩:=s
        obtain ⟨h1,h2,h3,h4⟩:=hm
        simp only at h1 h2 h3 h4 ⊢
        subst h3; subst h4
        refine ifP_dec (fun h=>by omega) (fun _=>?_)
        have hmp:=merge_prop r' L hrise L.length (by omega)
        rw [List.take_length] at hmp
        refine takes_ok (out:=mergeS r' L) (R0:=fun w=>L.getD w []) hr (n:=L.length) (by omega) (by rw [total_sumR L _ (by omega),List.take_length]; exact hT) h1 h2 (fun w hw=>?_) hmp.1 hmp.2.2.2 hQ
        have e:L.getD w []=L[w]:=by simp [List.getD_eq_getElem?_getD,hw]
        simp only [e]
        exact ⟨hrise _ (List.getElem_mem _),hok _ (List.getElem_mem _)⟩
end Go.Proofs.YtpackolbhcmomaaGreat
