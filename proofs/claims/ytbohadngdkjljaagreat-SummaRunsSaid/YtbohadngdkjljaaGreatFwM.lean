/- The engine. -/
import Derived.Test.YtbohadngdkjljaaGreatFwH
import Derived.MapKept
import Derived.Maps.RangeRun
import Derived.ChangeKeysEq
set_option linter.unusedSectionVars false
namespace Go.Fw
set_option linter.unusedSimpArgs false
set_option linter.unusedVariables false
open Go Go.RowKit
variable {w0 w:World} {M:Nat→Prop} {I0 I:IH} {m m':List HA}
variable {P:Program} {n:FrK} {E:D7} {Q:Exit→Act→World→Prop} {ops:Array Oper} {l:List Oper}
variable {d ty:Nat} {pos:String} {af:Array Edge} {T e:TypeId} {x y z:Operand}
variable {cur:Option (Value×Value)} {es:Array MapEntry}
section
variable {κ α:Type} [DecidableEq κ]
/-! ### Maps as lists of pairs -/
def BK (k:κ):List (κ×α)→Option α
 | []=>none
 | p :: r=>if k=p.1 then some p.2 else BK k r
def FC (k:κ) (v:α):List (κ×α)→List (κ×α)
 | []=>[(k,v)]
 | p :: r=>if k=p.1 then (k,v) :: r else p :: FC k v r
def BO (k:κ):List (κ×α)→List (κ×α)
 | []=>[]
 | p :: r=>if k=p.1 then r else p :: BO k r
def wK (l:List (κ×α)) (k:κ) (z:α) (C:α→Prop):Prop:=C ((BK k l).getD z)
def kP (l:List (κ×α)) (k:κ) (z:α) (C:α→Bool→Prop):Prop:=C ((BK k l).getD z) (BK k l).isSome
inductive nN:Bool→List Value→Value→Prop
 | a {cs:List Value}:nN true cs (.agg cs.toArray)
 | s {v:Value}:nN false [v] v
variable {ke:κ→Value} {El:ET α} {ag:Bool}
def EntsR (ke:κ→Value) (El:ET α) (ag:Bool) (I:IH):List MapEntry→List (κ×α)→Prop
 | [],[]=>True
 | e :: es,p :: l=>e.key=ke p.1∧(∃ cs,El.rep I cs p.2∧nN ag cs e.val)∧EntsR ke El ag I es l
 | _,_=>False
theorem EntsR.mono {J:IH} (D:I.le J):∀ {es:List MapEntry} {l:List (κ×α)},EntsR ke El ag I es l→EntsR ke El ag J es l
 | [],[],_=>trivial
 | _ :: _,_ :: _,⟨h1,⟨cs,h2,h3⟩,h4⟩=>⟨h1,⟨cs,El.mono D h2,h3⟩,h4.mono D⟩
 | [],_ :: _,h=>h.elim
 | _ :: _,[],h=>h.elim
def Stamped (l:List MapEntry) (clock:Nat):Prop:=(l.map (·.born)).Nodup∧∀ e∈l,e.born<clock
theorem Stamped.push {l:List MapEntry} {clock:Nat} {e:MapEntry} (h:Stamped l clock) (he:e.born=clock):Stamped (l++[e]) (clock+1):=by
 refine ⟨?_,fun x D=>?_⟩
 · rw [List.map_append,List.nodup_append]
   refine ⟨h.1,by simp,fun a J b G=>?_⟩
   simp only [List.map_cons,List.map_nil,List.mem_singleton] at G
   obtain ⟨x,D,rfl⟩:=List.mem_map.1 J
   have:=h.2 x D
   omega
 · rcases List.mem_append.1 D with D | D
   · have:=h.2 x D; omega
   · rw [List.mem_singleton] at D; subst D; omega
theorem UK {β γ:Type} {f:β→β} {g:β→γ} (h:∀ x,g (f x)=g x):∀ (l:List β) (i:Nat),(l.modify i f).map g=l.map g
 | [],0=>rfl
 | [],_+1=>rfl
 | x :: r,0=>by simp [List.modify_zero_cons,h]
 | x :: r,i+1=>by simp [List.modify_succ_cons,UK h r i]
theorem Stamped.modify {l:List MapEntry} {clock i:Nat} {f:MapEntry→MapEntry} (h:Stamped l clock) (O:∀ e,(f e).born=e.born):Stamped (l.modify i f) clock:=by
 have e:=UK (g:=fun e:MapEntry=>e.born) O l i
 refine ⟨by rw [e]; exact h.1,fun x U=>?_⟩
 have G:x.born∈(l.modify i f).map (·.born):=List.mem_map_of_mem U
 rw [e] at G
 obtain ⟨y,J,D⟩:=List.mem_map.1 G
 rw [←D]; exact h.2 y J
theorem Stamped.sub {l m:List MapEntry} {clock:Nat} (h:Stamped l clock) (D:m.Sublist l):Stamped m clock:=⟨(D.map _).nodup h.1,fun x G=>h.2 x (D.mem G)⟩
def OwnMap (ke:κ→Value) (El:ET α) (ag:Bool) (b:Nat) (kvs:List (κ×α)):HA where
 holds I h:=∃ es clock,h b=some (.map es clock)∧EntsR ke El ag I es.toList kvs∧Stamped es.toList clock
 mono:=fun hI hh ⟨es,clock,h1,h2,h3⟩=>⟨es,clock,hh _ _ h1,h2.mono hI,h3⟩
def Q6 (k:κ):List MapEntry→List κ→Nat→Option (Nat×Value)
 | e :: es,x :: ks,j=>if k=x then some (j,e.val) else Q6 k es ks (j+1)
 | _,_,_=>none
structure V3 (P:Program) (kt:TypeId) (ke:κ→Value):Prop where
 chk:∀ e k w,(Instr.checkKey e 10000 kt (ke k)).run P w=.ok () w
 find:∀ (k:κ) (es:List MapEntry) (ks:List κ) (w:World),es.map (·.key)=ks.map ke→(Instr.findKey kt (ke k) es).run P w=.ok (Q6 k es ks 0) w
 same:∀ k,Instr.sameBits 10000 (ke k) (ke k)=true
theorem cU {q:IntKind} (k:Int):∀ (es:List MapEntry) (D:List Int) (j:Nat),es.map (·.key)=D.map (Value.int q)→Instr.findNow (.int q) (.int q k) es j=some (Q6 k es D j)
 | [],[],_,_=>rfl
 | e :: es,x :: D,j,h=>by
  simp only [List.map_cons,List.cons.injEq] at h
  simp only [Instr.findNow,h.1,Instr.sameNow,if_true]
  by_cases hk:k=x
  · subst hk; simp [Q6]
  · have:(k==x)=false:=by simpa using hk
    simp only [this,Q6,hk,if_false]
    exact cU k es D (j+1) h.2
 | [],_ :: _,_,h=>by simp at h
 | _ :: _,[],_,h=>by simp at h
theorem LN {q:IntKind} {kt:TypeId} (hd:P.underlying kt=some (.int q)):V3 P kt (Value.int q) where
 chk e k w:=by
  show (Instr.checkKey e (9999+1) kt _).run P w=_
  unfold Instr.checkKey
  simp only [Sem.run_bind,run_underlying hd,Result.andThen_ok]
  rfl
 find k es ks w h:=by simp [Instr.findKey,run_underlying hd,cU k es ks 0 h]
 same k:=by simp [Instr.sameBits]
theorem EntsR.keys:∀ {es:List MapEntry} {l:List (κ×α)},EntsR ke El ag I es l→es.map (·.key)=(l.map (·.1)).map ke
 | [],[],_=>rfl
 | _ :: _,_ :: _,⟨D,_,G⟩=>by simp only [List.map_cons,D]; rw [G.keys]
 | [],_ :: _,h=>h.elim
 | _ :: _,[],h=>h.elim
theorem EntsR.miss (k:κ):∀ {es:List MapEntry} {l:List (κ×α)} {j:Nat},EntsR ke El ag I es l→Q6 k es (l.map (·.1)) j=none→BK k l=none∧(∀ v,FC k v l=l++[(k,v)])∧BO k l=l
 | [],[],_,_,_=>⟨rfl,fun _=>rfl,rfl⟩
 | _ :: _,p :: _,j,⟨_,_,h⟩,hf=>by
  simp only [List.map_cons,Q6] at hf
  split at hf
  · cases hf
  · rename_i hk
    obtain ⟨G,J,D⟩:=EntsR.miss k h hf
    exact ⟨by simp [BK,hk,G],fun v=>by simp [FC,hk,J],by simp [BO,hk,D]⟩
 | [],_ :: _,_,h,_=>h.elim
 | _ :: _,[],_,h,_=>h.elim
theorem EntsR.hit (k:κ):∀ {es:List MapEntry} {l:List (κ×α)} {j i:Nat} {v:Value},EntsR ke El ag I es l→Q6 k es (l.map (·.1)) j=some (i,v) →
  ∃ J,i=j+J∧(∃ e,es[J]? = some e∧e.key=ke k∧e.val=v)∧(∃ x cs,BK k l=some x∧El.rep I cs x∧nN ag cs v) ∧
    (∀ (f:MapEntry→MapEntry) (x:α),(∀ e,e.key=ke k→(f e).key=ke k)→(∀ e,∃ cs,El.rep I cs x∧nN ag cs (f e).val)→EntsR ke El ag I (es.modify J f) (FC k x l))∧EntsR ke El ag I (es.eraseIdx J) (BO k l)
 | [],[],_,_,_,_,hf=>by cases hf
 | e :: es,p :: l,j,i,v,⟨h1,h2,h⟩,hf=>by
  simp only [List.map_cons,Q6] at hf
  split at hf
  · rename_i hk
    cases hf
    refine ⟨0,rfl,⟨e,rfl,by rw [h1,hk],rfl⟩,?_,?_,?_⟩
    · obtain ⟨cs,O,U⟩:=h2
      exact ⟨p.2,cs,by simp [BK,hk],O,U⟩
    · intro f x D G
      simp only [List.modify_zero_cons,FC,hk,if_true]
      exact ⟨by rw [D e (by rw [h1,hk]),hk],G e,h⟩
    · simp only [List.eraseIdx_cons_zero,BO,hk,if_true]; exact h
  · rename_i hk
    obtain ⟨J,g0,O,U,V,W⟩:=EntsR.hit k h hf
    refine ⟨J+1,by omega,by simpa using O,?_,?_,?_⟩
    · obtain ⟨x,cs,Z,e2,Y⟩:=U
      exact ⟨x,cs,by simp [BK,hk,Z],e2,Y⟩
    · intro f x D G
      simp only [List.modify_succ_cons,FC,hk,if_false]
      exact ⟨h1,h2,V f x D G⟩
    · simp only [List.eraseIdx_cons_succ,BO,hk,if_false]; exact ⟨h1,h2,W⟩
 | [],_ :: _,_,_,_,h,_=>h.elim
 | _ :: _,[],_,_,_,h,_=>h.elim
theorem EntsR.push {k:κ} {x:α} {e:MapEntry} (hk:e.key=ke k) (D:∃ cs,El.rep I cs x∧nN ag cs e.val):∀ {es:List MapEntry} {l:List (κ×α)},EntsR ke El ag I es l→EntsR ke El ag I (es++[e]) (l++[(k,x)])
 | [],[],_=>⟨hk,D,trivial⟩
 | _ :: _,_ :: _,⟨J,G,h⟩=>⟨J,G,EntsR.push hk D h⟩
 | [],_ :: _,h=>h.elim
 | _ :: _,[],h=>h.elim
theorem EntsR.length:∀ {es:List MapEntry} {l:List (κ×α)},EntsR ke El ag I es l→es.length=l.length
 | [],[],_=>rfl
 | _ :: _,_ :: _,⟨_,_,h⟩=>by simp [h.length]
 | [],_ :: _,h=>h.elim
 | _ :: _,[],h=>h.elim
variable {b:Nat} {kvs:List (κ×α)} {kt et:TypeId} {k:κ}
theorem OwnMap.opn {r:List HA} (h:Sym w0 M I0 I (OwnMap ke El ag b kvs :: r) w):∃ es clock,(EntsR ke El ag I es.toList kvs∧Stamped es.toList clock)∧Sym w0 M I0 I (pto b (.map es clock) :: r) w:=by
 obtain ⟨G,hi,O,q,⟨h1,h2,hd',hl1,hl2,⟨es,clock,U,J,D⟩,hs'⟩,hk,hdj,hm⟩:=h
 exact ⟨es,clock,⟨J,D⟩,G,hi,O,q,⟨h1,h2,hd',hl1,hl2,U,hs'⟩,hk,hdj,hm⟩
theorem OwnMap.cls {r:List HA} {clock:Nat} (D:EntsR ke El ag I es.toList kvs∧Stamped es.toList clock) (h:Sym w0 M I0 I (pto b (.map es clock) :: r) w):Sym w0 M I0 I (OwnMap ke El ag b kvs :: r) w:=
 h.weaken fun _ hk=>⟨es,clock,hk,D.1,D.2⟩
theorem OwnMap.set {r:List HA} {es':Array MapEntry} {clock clock':Nat} (D:EntsR ke El ag I es'.toList kvs∧Stamped es'.toList clock') (h:Sym w0 M I0 I (pto b (.map es clock) :: r) w) :
   ∃ w',(setObj b (.map es' clock')).run P w=.ok () w'∧Sym w0 M I0 I (OwnMap ke El ag b kvs :: r) w':=by
 have hp:=h.pto
 refine ⟨_,MapKept.run_setObj_map _ hp,OwnMap.cls (clock:=clock') D (h.upd rfl rfl rfl rfl (by simp) (fun q hq=>?_) ?_)⟩
 · show (w.heap.setIfInBounds b _)[q]? = _
   rw [Array.getElem?_setIfInBounds,if_neg (by omega)]
 · show (w.heap.setIfInBounds b _)[b]? = _
   have:=(Array.getElem?_eq_some_iff.1 hp).1
   rw [Array.getElem?_setIfInBounds,if_pos rfl,if_pos this]
theorem Ops.mkMap (ke:κ→Value) (El:ET α) (ag:Bool) (J:Nat.blt d n.sz=true) (O:fresh E d=true)
  (G:∀ b,Ops P ops l n ((d,.map (some b)) :: E) (Sym w0 M I0 I (OwnMap ke El ag b [] :: m)) Q):Ops P ops (⟨some d,.makeMap T none,ty,pos,af,none⟩ :: l) n E (Sym w0 M I0 I m) Q:=
 Ops.valx (fun v w'=>∃ b,v=.map (some b)∧Sym w0 M I0 I (OwnMap ke El ag b [] :: m) w') rfl rfl
  (fun c w D h=>⟨.map (some w.heap.size),w.alloc (.map #[] 0),by simp [execOp,Instr.makeMap],_,rfl,OwnMap.cls ⟨by trivial,by simp [Stamped]⟩ (h.alloc _)⟩) J O
  (fun v c w D ⟨b,U,h⟩=>by subst U; exact G b c w D h)
theorem V4 {r:List HA} (K:V3 P kt ke) (W:P.underlying T=some (.map kt et)) {zv:Value} {z:α} (Y:∀ w,(zeroValue et).run P w=.ok zv w) (O:∃ cs,El.rep I cs z∧nN ag cs zv)
  (h:Sym w0 M I0 I (OwnMap ke El ag b kvs :: r) w) (J:Bool) :
  ∃ v cs,El.rep I cs ((BK k kvs).getD z)∧nN ag cs v∧(Instr.lookup T (.map (some b)) (ke k) J).run P w=.ok (if J then .tuple #[v,.bool (BK k kvs).isSome] else v) w:=by
 obtain ⟨es,clock,⟨hE,hSt⟩,hs⟩:=OwnMap.opn h
 have hp:=hs.pto
 have G:=K.find k es.toList (kvs.map (·.1)) w hE.keys
 cases hf:Q6 k es.toList (kvs.map (·.1)) 0 with
 | none=>
  obtain ⟨D,_,_⟩:=hE.miss k hf
  obtain ⟨cs,V,U⟩:=O
  refine ⟨zv,cs,by rw [D]; exact V,U,?_⟩
  rw [D]
  simp only [Instr.lookup,Sem.run_bind,run_underlying W,Result.andThen_ok,MapKept.run_getObj_map hp,Sem.run_pure,K.chk,G,hf,Y]
  cases J <;> rfl
 | some Z=>
  obtain ⟨i,v⟩:=Z
  obtain ⟨i',_,_,⟨x,cs,D,V,U⟩,_,_⟩:=hE.hit k hf
  refine ⟨v,cs,by rw [D]; exact V,U,?_⟩
  rw [D]
  simp only [Instr.lookup,Sem.run_bind,run_underlying W,Result.andThen_ok,MapKept.run_getObj_map hp,Sem.run_pure,K.chk,G,hf]
  cases J <;> rfl
theorem Ops.lookM {zv:Value} {z:α} {C:α→Prop} (K:V3 P kt ke) (Y:P.underlying T=some (.map kt et)) (hz:∀ w,(zeroValue et).run P w=.ok zv w) (G:∃ cs,El.rep I cs z∧nN ag cs zv)
  (hA:Del m (OwnMap ke El ag b kvs) m') (hx:ev E x=some (.map (some b))) (V:ev E y=some (ke k)) (hd:wK kvs k z C) (W:Nat.blt d n.sz=true) (hf:fresh E d=true)
  (Z:∀ v r cs,C r→El.rep I cs r→nN ag cs v→Ops P ops l n ((d,v) :: E) (Sym w0 M I0 I m) Q):Ops P ops (⟨some d,.lookup T x y false,ty,pos,af,none⟩ :: l) n E (Sym w0 M I0 I m) Q:=
 Ops.valx (fun v w'=>(∃ cs,El.rep I cs ((BK k kvs).getD z)∧nN ag cs v)∧Sym w0 M I0 I m w') rfl rfl
  (fun c w D h=>by
   obtain ⟨v,cs,J,O,U⟩:=V4 (k:=k) K Y hz G (h.del hA) false
   refine ⟨v,w,?_,⟨cs,J,O⟩,h⟩
   simp [execOp,D.eval hx,D.eval V,U]) W hf
  (fun v c w D ⟨⟨cs,J,O⟩,h⟩=>Z v _ cs hd J O c w D h)
theorem Ops.lookM2 {zv:Value} {z:α} {C:α→Bool→Prop} (K:V3 P kt ke) (Y:P.underlying T=some (.map kt et)) (hz:∀ w,(zeroValue et).run P w=.ok zv w) (G:∃ cs,El.rep I cs z∧nN ag cs zv)
  (hA:Del m (OwnMap ke El ag b kvs) m') (hx:ev E x=some (.map (some b))) (V:ev E y=some (ke k)) (hd:kP kvs k z C) (W:Nat.blt d n.sz=true) (hf:fresh E d=true)
  (Z:∀ v r t cs,C r t→El.rep I cs r→nN ag cs v→Ops P ops l n ((d,.tuple #[v,.bool t]) :: E) (Sym w0 M I0 I m) Q):Ops P ops (⟨some d,.lookup T x y true,ty,pos,af,none⟩ :: l) n E (Sym w0 M I0 I m) Q:=
 Ops.valx (fun u w'=>(∃ v cs,u=.tuple #[v,.bool (BK k kvs).isSome]∧El.rep I cs ((BK k kvs).getD z)∧nN ag cs v)∧Sym w0 M I0 I m w') rfl rfl
  (fun c w D h=>by
   obtain ⟨v,cs,J,O,U⟩:=V4 (k:=k) K Y hz G (h.del hA) true
   refine ⟨_,w,?_,⟨v,cs,rfl,J,O⟩,h⟩
   simp [execOp,D.eval hx,D.eval V,U]) W hf
  (fun u c w D ⟨⟨v,cs,hu,J,O⟩,h⟩=>by subst hu; exact Z v _ _ cs hd J O c w D h)
theorem Ops.updM {v:α} {u:Value} (K:V3 P kt ke) (hT:P.underlying T=some (.map kt et)) (hA:At m (OwnMap ke El ag b kvs) m' (OwnMap ke El ag b (FC k v kvs))) (hx:ev E x=some (.map (some b))) (hy:ev E y=some (ke k)) (hv:ev E z=some u)
    (hr:∃ cs,El.rep I cs v∧nN ag cs u) (k':Ops P ops l n E (Sym w0 M I0 I m') Q):Ops P ops (⟨none,.mapUpdate T x y z,ty,pos,af,none⟩ :: l) n E (Sym w0 M I0 I m) Q:=
  Ops.act rfl rfl (fun c w ho hs=>by
    obtain ⟨r,h2,h3⟩:=hA.del
    obtain ⟨es,clock,⟨hE,hSt⟩,hs1⟩:=OwnMap.opn (hs.del h2)
    have hp:=hs1.pto
    have hfd:=K.find k es.toList (kvs.map (·.1)) w hE.keys
    cases hf:Q6 k es.toList (kvs.map (·.1)) 0 with
    | none=>
      obtain ⟨_,g2,_⟩:=hE.miss k hf
      obtain ⟨w',hr',hs'⟩:=OwnMap.set (P:=P) (es':=es.push { key:=ke k,val:=u,born:=clock }) (clock':=clock+1) (kvs:=FC k v kvs) (by rw [g2,Array.toList_push]; exact ⟨EntsR.push (ke:=ke) (e:={ key:=ke k,val:=u,born:=clock }) rfl hr hE,hSt.push rfl⟩) hs1
      refine ⟨w',?_,hs'.undel h3⟩
      simp only [execOp,ho.eval hx,ho.eval hy,ho.eval hv,Instr.mapUpdate,Sem.run_bind,run_underlying hT,Result.andThen_ok,MapKept.run_getObj_map hp,K.chk,hfd,hf,hr',Sem.run_pure]
    | some iv=>
      obtain ⟨i,u'⟩:=iv
      obtain ⟨i',hi,⟨e0,q1,q2,q3⟩,_,g3,_⟩:=hE.hit k hf
      have hi':i'=i:=by omega
      subst hi'
      have hkey:((es[i']?.map (·.key)).getD (ke k))=ke k:=by
        rw [←Array.getElem?_toList,q1]; simp [q2]
      obtain ⟨w',hr',hs'⟩:=OwnMap.set (P:=P) (es':=es.modify i' fun e=>{ e with key:=ke k,val:=u }) (clock':=clock) (kvs:=FC k v kvs) (by rw [Array.toList_modify]; exact ⟨g3 _ _ (fun _ _=>rfl) (fun _=>hr),hSt.modify fun _=>rfl⟩) hs1
      refine ⟨w',?_,hs'.undel h3⟩
      simp only [execOp,ho.eval hx,ho.eval hy,ho.eval hv,Instr.mapUpdate,Sem.run_bind,run_underlying hT,Result.andThen_ok,MapKept.run_getObj_map hp,K.chk,hfd,hf,hkey,Instr.keyThatStays,K.same,if_true,hr',Sem.run_pure]) k'
theorem Ops.delM {O:Array TypeId} (K:V3 P kt ke) (hT:P.underlying T=some (.map kt et)) (h:O[0]? = some T) (hA:At m (OwnMap ke El ag b kvs) m' (OwnMap ke El ag b (BO k kvs))) (hx:ev E x=some (.map (some b))) (hy:ev E y=some (ke k))
  (k':Ops P ops l n E (Sym w0 M I0 I m') Q):Ops P ops (⟨none,.call ⟨.builtin .delete,#[x,y],O⟩,ty,pos,af,none⟩ :: l) n E (Sym w0 M I0 I m) Q:=
 Ops.val0 rfl rfl (fun c w ho hs=>by
  obtain ⟨r,h2,Z⟩:=hA.del
  obtain ⟨es,clock,⟨V,J⟩,hs1⟩:=OwnMap.opn (hs.del h2)
  have hp:=hs1.pto
  have U:=K.find k es.toList (kvs.map (·.1)) w V.keys
  have e0:(#[x,y].map c.eval) = #[.map (some b),ke k]:=by simp [ho.eval hx,ho.eval hy]
  cases hf:Q6 k es.toList (kvs.map (·.1)) 0 with
  | none=>
   obtain ⟨_,_,g3⟩:=V.miss k hf
   obtain ⟨w',D,G⟩:=OwnMap.set (P:=P) (es':=es) (clock':=clock) (kvs:=BO k kvs) (by rw [g3]; exact ⟨V,J⟩) hs1
   refine ⟨.tuple #[],w',?_,G.undel Z⟩
   simp [execOp,resolve,e0,invoke,builtin,Builtin.delete_,h,run_underlying hT,MapKept.run_getObj_map hp,K.chk,U,hf,D]
  | some iv=>
   obtain ⟨i,u'⟩:=iv
   obtain ⟨W,hi,_,_,_,g4⟩:=V.hit k hf
   have Y:W=i:=by omega
   subst Y
   obtain ⟨w',D,G⟩:=OwnMap.set (P:=P) (es':=es.eraseIdxIfInBounds W) (clock':=clock) (kvs:=BO k kvs) (by
    have e1:(es.eraseIdxIfInBounds W).toList=es.toList.eraseIdx W:=by
     unfold Array.eraseIdxIfInBounds
     split
     · simp
     · rw [List.eraseIdx_of_length_le (by simp; omega)]
    rw [e1]; exact ⟨g4,J.sub (List.eraseIdx_sublist _ _)⟩) hs1
   refine ⟨.tuple #[],w',?_,G.undel Z⟩
   simp [execOp,resolve,e0,invoke,builtin,Builtin.delete_,h,run_underlying hT,MapKept.run_getObj_map hp,K.chk,U,hf,D]) k'
theorem nO {G:TypeDesc} (J:∀ k x,Instr.sameNow G (ke k) (ke x)=none) (k:κ):∀ (es:List MapEntry) (D:List κ),es.map (·.key)=D.map ke→Instr.findNow G (ke k) es 0=if es=[] then some none else none
 | [],[],_=>by simp [Instr.findNow]
 | e :: es,x :: D,h=>by
  simp only [List.map_cons,List.cons.injEq] at h
  simp [Instr.findNow,h.1,J]
 | [],_ :: _,h=>by simp at h
 | _ :: _,[],h=>by simp at h
theorem XU (D:∀ (k x:κ) (w:World),(Op.equal kt (ke k) (ke x)).run P w=.ok (decide (k=x)) w) (k:κ):∀ (es:List MapEntry) (G:List κ) (j:Nat) (w:World),es.map (·.key)=G.map ke→(Instr.findAsking kt (ke k) es j).run P w=.ok (Q6 k es G j) w
 | [],[],_,_,_=>rfl
 | e :: es,x :: G,j,w,h=>by
  simp only [List.map_cons,List.cons.injEq] at h
  simp only [Instr.findAsking,Sem.run_bind,h.1,D,Result.andThen_ok]
  by_cases hk:k=x
  · simp [hk,Q6]
  · simp only [hk,decide_false,Bool.false_eq_true,if_false,Q6]
    exact XU D k es G (j+1) w h.2
 | [],_ :: _,_,_,h=>by simp at h
 | _ :: _,[],_,_,h=>by simp at h
theorem wY {kd:TypeDesc} (hd:P.underlying kt=some kd) (hn:∀ k x,Instr.sameNow kd (ke k) (ke x)=none) (heq:∀ (k x:κ) (w:World),(Op.equal kt (ke k) (ke x)).run P w=.ok (decide (k=x)) w)
  (hchk:∀ e k w,(Instr.checkKey e 10000 kt (ke k)).run P w=.ok () w) (hsame:∀ k,Instr.sameBits 10000 (ke k) (ke k)=true):V3 P kt ke where
 chk:=hchk
 find k es ks w h:=by
  have h1:=nO hn k es ks h
  simp only [Instr.findKey,Sem.run_bind,run_underlying hd,Result.andThen_ok,h1]
  by_cases h0:es=[]
  · subst h0
    cases ks with
    | nil=>rfl
    | cons=>simp at h
  · rw [if_neg h0]
    exact XU heq k es ks 0 w h
 same:=hsame
def CL (x:Int×Int):Value:=.agg #[.int .i64 x.1,.int .i64 x.2]
theorem AaC (d:Nat) {t e:TypeId} {i:TypeInfo} (V:P.underlying t=some (.array 2 e)) (hi:P.info? e=some i) (he:P.underlying e=some (.int .i64)) (G:P.cellsOf e=1) (h:∀ w,(isAgg e).run P w=.ok false w) (k x:Int×Int) (w:World) :
   (Op.equalIn (d+2) t (CL k) (CL x)).run P w=.ok (decide (k=x)) w:=by
 obtain ⟨O,W⟩:=k
 obtain ⟨U,J⟩:=x
 unfold CL
 rw [run_equalIn_array w (d+1) _ _ V hi]
 have D:=fun a b=>run_equalIn_int (P:=P) w d e .i64 .i64 a b he
 simp only [G,show List.range 2=[0,1] from rfl,Op.eqItems,Sem.run_bind,part,h,Result.andThen_ok]
 simp [D]
 by_cases e1:O=U
 · by_cases e2:W=J <;> simp [e1,e2,h,D]
 · simp [e1,h]
theorem AaD {kt e:TypeId} {i:TypeInfo} (h:P.underlying kt=some (.array 2 e)) (hi:P.info? e=some i) (he:P.underlying e=some (.int .i64)) (U:P.cellsOf e=1) (G:∀ w,(isAgg e).run P w=.ok false w) (J:∀ w,(sizeOf e).run P w=.ok 1 w):V3 P kt CL:=by
 refine wY h (fun _ _=>rfl) (fun k x w=>AaC 9998 h hi he U G k x w) (fun D k w=>?_) (fun k=>?_)
 · show (Instr.checkKey D (9998+1+1) kt _).run P w=_
   unfold Instr.checkKey CL
   simp only [Sem.run_bind,run_underlying h,Result.andThen_ok]
   have O:∀ (a:Int) (w:World),(Instr.checkKey D (9998+1) e (.int .i64 a)).run P w=.ok () w:=fun a w=>by
    unfold Instr.checkKey
    simp only [Sem.run_bind,run_underlying he,Result.andThen_ok]
    rfl
   simp [Std.Legacy.Range.forIn_eq_forIn_range',Std.Legacy.Range.size,List.range',J,part,G,O]
 · simp [CL,Instr.sameBits]
def sO (rest:List (κ×α)) (A:Prop) (B:κ×α→List (κ×α)→Prop):Prop:=(rest=[]→A)∧∀ (i:Nat) (p:κ×α),rest[i]? = some p→B p (rest.eraseIdx i)
def wZ (cur:Option (Value×Value)) (es:List MapEntry) (clock h:Nat) (seen:Array Nat):Prop:=match cur with
 | none=>True
 | some kv=>clock=h∧∃ e∈es,seen.back? = some e.born∧e.key=kv.1∧e.val=kv.2
def OwnIt (ke:κ→Value) (El:ET α) (ag:Bool) (b r:Nat) (kvs rest:List (κ×α)) (cur:Option (Value×Value)):HA where
 holds I h:=∃ es clock since seen c0,h b=some (.map es clock)∧EntsR ke El ag I es.toList kvs∧Stamped es.toList clock∧h r=some (.mapIter (some b) since seen c0)∧(∀ e∈es.toList,e.born<since)∧since≤c0∧since≤clock∧EntsR ke El ag I (leftOf es seen).toList rest∧wZ cur es.toList clock c0 seen
 mono:=fun hI hh ⟨es,clock,since,seen,c0,h1,h2,h3,h4,h5,h6,h7,h8,h9⟩=>⟨es,clock,since,seen,c0,hh _ _ h1,h2.mono hI,h3,hh _ _ h4,h5,h6,h7,h8.mono hI,h9⟩
theorem EntsR.get:∀ {es:List MapEntry} {l:List (κ×α)} {i:Nat} {e:MapEntry},EntsR ke El ag I es l→es[i]? = some e→∃ p,l[i]? = some p∧e.key=ke p.1∧∃ cs,El.rep I cs p.2∧nN ag cs e.val
 | _ :: _,p :: _,0,_,⟨h1,h2,_⟩,he=>by cases he; exact ⟨p,rfl,h1,h2⟩
 | _ :: _,_ :: _,i+1,_,⟨_,_,h⟩,he=>by
  obtain ⟨p,g⟩:=EntsR.get (i:=i) h (by simpa using he)
  exact ⟨p,by simpa using g.1,g.2⟩
 | [],[],_,_,_,he=>by simp at he
 | [],_ :: _,_,_,h,_=>h.elim
 | _ :: _,[],_,_,h,_=>h.elim
theorem EntsR.erase:∀ {es:List MapEntry} {l:List (κ×α)} (i:Nat),EntsR ke El ag I es l→EntsR ke El ag I (es.eraseIdx i) (l.eraseIdx i)
 | [],[],_,_=>trivial
 | _ :: _,_ :: _,0,⟨_,_,h⟩=>h
 | _ :: _,_ :: _,i+1,⟨D,G,h⟩=>⟨D,G,EntsR.erase i h⟩
 | [],_ :: _,_,h=>h.elim
 | _ :: _,[],_,h=>h.elim
theorem ZB {e:MapEntry}:∀ {l:List MapEntry} {i:Nat},(l.map (·.born)).Nodup→l[i]? = some e→l.filter (fun x=>!(x.born==e.born))=l.eraseIdx i
 | [],_,_,h=>by simp at h
 | x :: r,0,hn,h=>by
  cases h
  simp only [List.map_cons,List.nodup_cons] at hn
  simp only [List.filter_cons,beq_self_eq_true,Bool.not_true,Bool.false_eq_true,if_false,List.eraseIdx_cons_zero]
  refine List.filter_eq_self.2 fun y O=>?_
  have:y.born≠e.born:=fun D=>hn.1 (D▸List.mem_map_of_mem O)
  simpa using this
 | x :: r,i+1,hn,h=>by
  simp only [List.map_cons,List.nodup_cons] at hn
  have J:r[i]? = some e:=by simpa using h
  have G:x.born≠e.born:=fun D=>hn.1 (D▸List.mem_map_of_mem (List.mem_of_getElem? J))
  have U:(x.born==e.born)=false:=by simpa using G
  simp only [List.filter_cons,U,Bool.not_false,if_true,List.eraseIdx_cons_succ]
  rw [ZB hn.2 J]
theorem kQ {seen:Array Nat} {e:MapEntry} {i:Nat} {clock:Nat} (D:Stamped es.toList clock) (hi:(leftOf es seen).toList[i]? = some e):(leftOf es (seen.push e.born)).toList=(leftOf es seen).toList.eraseIdx i:=by
 have h:(leftOf es seen).toList.Sublist es.toList:=by unfold leftOf; rw [Array.toList_filter]; exact List.filter_sublist
 have G:((leftOf es seen).toList.map (·.born)).Nodup:=(h.map _).nodup D.1
 rw [←ZB G hi]
 unfold leftOf
 rw [Array.toList_filter,Array.toList_filter,List.filter_filter]
 congr 1
 funext x
 by_cases h1:x.born=e.born
 · simp [h1]
 · have:(x.born==e.born)=false:=by simpa using h1
   simp [this,h1]
theorem Sym.join2 {A B C:HA} {l:List HA} (h:Sym w0 M I0 I (A :: B :: l) w) (W:∀ D G,D.disj G→A.holds I D→B.holds I G→C.holds I (D.union G)):Sym w0 M I0 I (C :: l) w:=by
 obtain ⟨V,hi,Y,k,⟨D,k1,hd,hl1,hl2,ha,G,h3,hd',hl3,hl4,hB,hs⟩,hk,hdj,hm⟩:=h
 have U:D.disj G:=hd.mono (IH.le.refl _) hl3
 have J:D.disj h3:=hd.mono (IH.le.refl _) hl4
 refine ⟨V,hi,Y,k,⟨D.union G,h3,?_,IH.union_le hl1 (hl3.trans hl2),hl4.trans hl2,W D G U ha hB,hs⟩,hk,hdj,hm⟩
 intro b
 rcases J b with h | h
 · rcases hd' b with O | O
   · left; simp [IH.union,h,O]
   · exact .inr O
 · exact .inr h
theorem Sym.split2 {A B C:HA} {l:List HA} (h:Sym w0 M I0 I (C :: l) w) (hc:∀ q,C.holds I q→∃ G D,G.disj D∧G.le q∧D.le q∧A.holds I G∧B.holds I D):Sym w0 M I0 I (A :: B :: l) w:=by
 obtain ⟨W,hi,Z,k,⟨q,k1,hd,hl1,hl2,ha,hs⟩,hk,hdj,hm⟩:=h
 obtain ⟨G,D,U,V,O,hA,Y⟩:=hc q ha
 refine ⟨W,hi,Z,k,⟨G,D.union k1,?_,V.trans hl1,IH.union_le (O.trans hl1) hl2,hA,D,k1,hd.mono O (IH.le.refl _),IH.le_union_left _ _,IH.le_union_right (hd.mono O (IH.le.refl _)),Y,hs⟩,hk,hdj,hm⟩
 intro b
 rcases U b with h | h
 · exact .inl h
 · rcases (hd.mono V (IH.le.refl k1)) b with J | J
   · exact .inl J
   · right; simp [IH.union,h,J]
variable {r:Nat} {rest:List (κ×α)}
def pto2 (b:Nat) (o:Obj) (r:Nat) (o':Obj):HA where
 holds _ h:=h b=some o∧h r=some o'
 mono:=fun _ hh h=>⟨hh _ _ h.1,hh _ _ h.2⟩
theorem Sym.pto2 {b r:Nat} {o o':Obj} {l:List HA} (G:r≠b) (h:Sym w0 M I0 I (Fw.pto2 b o r o' :: l) w):Sym w0 M I0 I (Fw.pto r o' :: Fw.pto b o :: l) w:=by
 refine h.split2 fun q J=>⟨FM r o',FM b o,fun c=>?_,fun c p e=>?_,fun c p e=>?_,by simp [Fw.pto,FM],by simp [Fw.pto,FM]⟩
 · by_cases e:c=r
   · right; subst e; simp [FM,G]
   · left; simp [FM,e]
 · simp only [FM] at e; split at e
   · rename_i D; subst D; cases e; exact J.2
   · cases e
 · simp only [FM] at e; split at e
   · rename_i D; subst D; cases e; exact J.1
   · cases e
theorem OwnIt.opn {cur:Option (Value×Value)} {l:List HA} (h:Sym w0 M I0 I (OwnIt ke El ag b r kvs rest cur :: l) w):∃ es clock D seen G,EntsR ke El ag I es.toList kvs∧Stamped es.toList clock∧(∀ e∈es.toList,e.born<D)∧D≤G∧D≤clock∧EntsR ke El ag I (leftOf es seen).toList rest∧wZ cur es.toList clock G seen ∧
  Sym w0 M I0 I (pto r (.mapIter (some b) D seen G) :: pto b (.map es clock) :: l) w:=by
 obtain ⟨Y,hi,hn,q,⟨q1,q2,hd',hl1,hl2,⟨es,clock,D,seen,G,U,g2,V,J,W,Z,g7,g8,g9⟩,hs'⟩,hkk,hdj,hm⟩:=h
 have O:r≠b:=fun e=>by subst e; rw [U] at J; cases J
 have h2:Sym w0 M I0 I (Fw.pto2 b (.map es clock) r (.mapIter (some b) D seen G) :: l) w:=⟨Y,hi,hn,q,⟨q1,q2,hd',hl1,hl2,⟨U,J⟩,hs'⟩,hkk,hdj,hm⟩
 exact ⟨es,clock,D,seen,G,g2,V,W,Z,g7,g8,g9,h2.pto2 O⟩
theorem OwnIt.cls {l:List HA} {clock D G:Nat} {seen:Array Nat} (h2:EntsR ke El ag I es.toList kvs) (h3:Stamped es.toList clock) (W:∀ e∈es.toList,e.born<D) (h6:D≤G) (U:D≤clock) (Y:EntsR ke El ag I (leftOf es seen).toList rest) (J:wZ cur es.toList clock G seen)
  (h:Sym w0 M I0 I (pto r (.mapIter (some b) D seen G) :: pto b (.map es clock) :: l) w):Sym w0 M I0 I (OwnIt ke El ag b r kvs rest cur :: l) w:=
 h.join2 fun O Z hd ha V=>⟨es,clock,D,seen,G,IH.le_union_right hd _ _ V,h2,h3,IH.le_union_left O Z _ _ ha,W,h6,U,Y,J⟩
theorem Ops.rangeM (J:P.underlying T=some (.map kt et)) (Y:Del m (OwnMap ke El ag b kvs) m') (W:ev E x=some (.map (some b))) (G:Nat.blt d n.sz=true) (V:fresh E d=true)
  (O:∀ r,Ops P ops l n ((d,.pointer (some ⟨r,0,none⟩)) :: E) (Sym w0 M I0 I (OwnIt ke El ag b r kvs kvs none :: m')) Q):Ops P ops (⟨some d,.range T x,ty,pos,af,none⟩ :: l) n E (Sym w0 M I0 I m) Q:=
 Ops.valx (fun v w'=>∃ r,v=.pointer (some ⟨r,0,none⟩)∧Sym w0 M I0 I (OwnIt ke El ag b r kvs kvs none :: m') w') rfl rfl
  (fun c w h D=>by
   obtain ⟨es,clock,⟨hE,hSt⟩,hs1⟩:=OwnMap.opn (D.del Y)
   have hp:=hs1.pto
   refine ⟨.pointer (some ⟨w.heap.size,0,none⟩),w.alloc (.mapIter (some b) clock #[] clock),?_,_,rfl,OwnIt.cls (seen:=#[]) hE hSt hSt.2 (Nat.le_refl _) (Nat.le_refl _) ?_ trivial (hs1.alloc _)⟩
   · simp only [execOp,h.eval W,Instr.range,Sem.run_bind,run_underlying J,Result.andThen_ok,MapKept.run_getObj_map hp,Sem.run_pure]
     rfl
   · have:leftOf es #[]=es:=by unfold leftOf; rw [Array.filter_eq_self]; simp
     rw [this]; exact hE) G V
  (fun v c w h ⟨r,U,D⟩=>by subst U; exact O r c w h D)
theorem Ops.nextM {A:Prop} {B:κ×α→List (κ×α)→Prop} (hA:Del m (OwnIt ke El ag b r kvs rest cur) m') (hx:ev E x=some (.pointer (some ⟨r,0,none⟩))) (hd:sO rest A B) (hb:Nat.blt d n.sz=true) (hf:fresh E d=true)
   (k1:A→rest=[]→Ops P ops l n ((d,.tuple #[.bool false]) :: E) (Sym w0 M I0 I m) Q)
   (k2:∀ (p:κ×α) (G:List (κ×α)) v cs,B p G→El.rep I cs p.2→nN ag cs v→rest≠[]→Ops P ops l n ((d,.tuple #[.bool true,ke p.1,v]) :: E) (Sym w0 M I0 I (OwnIt ke El ag b r kvs G (some (ke p.1,v)) :: m')) Q) :
   Ops P ops (⟨some d,.next x false,ty,pos,af,none⟩ :: l) n E (Sym w0 M I0 I m) Q:=by
 intro c w ho hs
 obtain ⟨es,clock,h,seen,c0,hE,hSt,U,hsc,W,hL,hcur,O⟩:=OwnIt.opn (hs.del hA)
 have hr:=O.pto
 have hbm:=(O.del (.s .z)).pto
 refine wpListIn_plain rfl fun K hK=>?_
 rcases run_next_at (P:=P) w ty r b h c0 seen es clock hr hbm U hsc with ⟨h0,J⟩ | ⟨e,he,w1,hw1,J⟩
 · have V:rest=[]:=by
     have:=hL.length
     cases rest with
     | nil=>rfl
     | cons=>simp [h0] at this
   have D:(execOp c.eval ⟨some d,.next x false,ty,pos,af,none⟩).run P w=.ok (.value (.tuple #[.bool false])) w:=by simp [execOp,ho.eval hx,J]
   refine Z3 D (by simp) ?_
   simp only [Oper.uponIn]
   exact hK _ _ (k1 (hd.1 V) V _ _ (ho.put hb hf _) hs)
 · obtain ⟨i,hi⟩:=List.getElem?_of_mem he
   obtain ⟨p,hp,Y,cs,Z,hof⟩:=hL.get hi
   have D:(execOp c.eval ⟨some d,.next x false,ty,pos,af,none⟩).run P w=.ok (.value (.tuple #[.bool true,e.key,e.val])) (ChangeMaps.setBlock w1 r (.mapIter (some b) h (seen.push e.born) clock)):=by simp [execOp,ho.eval hx,J]
   refine Z3 D (by simp) ?_
   simp only [Oper.uponIn]
   have hs2:Sym w0 M I0 I (pto r (.mapIter (some b) h seen c0) :: pto b (.map es clock) :: m') w1:=by
     rcases hw1 with rfl | rfl
     · exact O
     · exact O.drew _ (Nat.le_succ _)
   have hr1:=hs2.pto
   have hs3:=hs2.upd (o':=.mapIter (some b) h (seen.push e.born) clock) (w':=ChangeMaps.setBlock w1 r (.mapIter (some b) h (seen.push e.born) clock)) rfl rfl rfl rfl (by simp [ChangeMaps.setBlock])
     (fun q hq=>by show (w1.heap.setIfInBounds r _)[q]? = _; rw [Array.getElem?_setIfInBounds,if_neg (by omega)])
     (by show (w1.heap.setIfInBounds r _)[r]? = _; have:=(Array.getElem?_eq_some_iff.1 hr1).1; rw [Array.getElem?_setIfInBounds,if_pos rfl,if_pos this])
   have hne:rest≠[]:=fun e'=>by rw [e'] at hp; simp at hp
   rw [Y]
   refine hK _ _ (k2 p (rest.eraseIdx i) e.val cs (hd.2 i p hp) Z hof hne _ _ (ho.put hb hf _) (OwnIt.cls hE hSt U W W ?_ ⟨rfl,e,?_,by simp,Y,rfl⟩ hs3))
   · rw [kQ hSt hi]
     exact hL.erase i
   · have:e∈leftOf es seen:=by simpa using he
     unfold leftOf at this
     have:=(Array.mem_filter.1 this).1
     simpa using this
theorem Ops.entryM {kv vv:Value} (hA:Del m (OwnIt ke El ag b r kvs rest (some (kv,vv))) m') (hx:ev E x=some (.pointer (some ⟨r,0,none⟩))) (hb:Nat.blt d n.sz=true) (hf:fresh E d=true)
  (k':Ops P ops l n ((d,.tuple #[kv,vv]) :: E) (Sym w0 M I0 I (OwnIt ke El ag b r kvs rest none :: m')) Q):Ops P ops (⟨some d,.entry x,ty,pos,af,none⟩ :: l) n E (Sym w0 M I0 I m) Q:=by
 intro c w ho hs
 obtain ⟨es,clock,J,seen,c0,hE,W,U,Y,V,hL,⟨h1,e,h2,h3,h4,h5⟩,hs1⟩:=OwnIt.opn (hs.del hA)
 have hr:=hs1.pto
 have hbm:=(hs1.del (.s .z)).pto
 simp only at h4 h5
 refine wpListIn_plain rfl fun K hK=>?_
 obtain ⟨pre,D⟩:∃ pre:Array Nat,seen=pre.push e.born:=by
  refine ⟨seen.pop,?_⟩
  have hne:seen ≠ #[]:=fun h=>by rw [h] at h3; simp at h3
  have:=Array.back?_eq_some_iff.1 h3
  obtain ⟨ys,Z⟩:=this
  rw [Z]; simp
 subst D h1
 have O:=run_entry_at (P:=P) w r b J pre es clock e hr hbm h2 W.1
 have G:(execOp c.eval ⟨some d,.entry x,ty,pos,af,none⟩).run P w=.ok (.value (.tuple #[kv,vv])) w:=by simp [execOp,ho.eval hx,O,h4,h5]
 refine Z3 G (by simp) ?_
 simp only [Oper.uponIn]
 exact hK _ _ (k' _ _ (ho.put hb hf _) (OwnIt.cls hE W U Y V hL trivial hs1))
theorem Ops.itEnd (G:Del m (OwnIt ke El ag b r kvs rest cur) m') (D:Ops P ops l n E (Sym w0 M I0 I (OwnMap ke El ag b kvs :: m')) Q):Ops P ops l n E (Sym w0 M I0 I m) Q:=
 Ops.pre (fun _ h=>(h.del G).weaken (B:=OwnMap ke El ag b kvs) fun _ ⟨es,clock,_,_,_,U,J,O,_⟩=>⟨es,clock,U,J,O⟩) D
theorem Cod.itEnd {c:Code} (G:Del m (OwnIt ke El ag b r kvs rest cur) m') (D:Cod P c n E (Sym w0 M I0 I (OwnMap ke El ag b kvs :: m')) Q):Cod P c n E (Sym w0 M I0 I m) Q:=
 Cod.pre (fun _ h=>(h.del G).weaken (B:=OwnMap ke El ag b kvs) fun _ ⟨es,clock,_,_,_,U,J,O,_⟩=>⟨es,clock,U,J,O⟩) D
end
theorem RepSl.ofNone {α:Type} {El:ET α} {cap:Nat} {xs:List α} {a:Option Addr} (h:RepSl El I a cap xs) (D:a.isNone=true):xs=[]:=by
 cases xs with
 | nil=>rfl
 | cons x r=>obtain ⟨b,off,cs,G,_⟩:=h.2 0 x rfl; subst G; cases D
def AaE {α:Type} (xs:List α) (A B:Prop):Prop:=(xs=[]→A)∧B
theorem hG (w:World) (d:Nat) (t e:TypeId) (a:Option Addr) (l c:Nat) (h:P.underlying t=some (.slice e)):(Op.equalIn (d+1) t (.slice a l c) (.slice none 0 0)).run P w=.ok a.isNone w:=by
 cases a <;> simp [Op.equalIn,run_underlying h]
theorem kR (w:World) (t e:TypeId) (a:Option Addr) (l c:Nat) (h:P.underlying t=some (.slice e)):(Op.equal t (.slice a l c) (.slice none 0 0)).run P w=.ok a.isNone w:=hG w 9999 t e a l c h
theorem Ops.eqNilS {S:World→Prop} {O:TypeId} {a:Option Addr} {k cap:Nat} (W:P.underlying T=some (.slice e)) (V:ev E x=some (.slice a k cap)) (G:ev E y=some (.slice none 0 0)) (J:Nat.blt d n.sz=true) (U:fresh E d=true)
  (D:Ops P ops l n ((d,.bool a.isNone) :: E) S Q):Ops P ops (⟨some d,.binOp .eql T x y O,ty,pos,af,none⟩ :: l) n E S Q:=
 Ops.val rfl rfl (fun c w h _=>by
  have Y:(eqGuard .eql T x y (.slice a k cap) (.slice none 0 0)).run P w=.ok () w:=by unfold eqGuard; rfl
  simp only [execOp,h.eval V,h.eval G,Sem.run_bind,Y,Result.andThen_ok,binOp]
  simp [kR w T e a k cap W]) J U D
end Go.Fw
