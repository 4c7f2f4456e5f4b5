/- The engine, part M: maps of the call's own. -/
import Derived.Test.YtbohadngdkjljaaGreatFwH
import Derived.MapKept
import Derived.Maps.RangeRun
import Derived.ChangeKeysEq
set_option linter.unusedSectionVars false
namespace Go.Fw
set_option linter.unusedSimpArgs false
set_option linter.unusedVariables false
open Go Go.RowKit
variable {w0 w:World} {M:Nat→Prop} {I0 I:IH} {m m':List HA}
variable {P:Program} {n:FrK} {E:DH} {Q:Exit→Act→World→Prop} {ops:Array Oper} {l:List Oper}
variable {d ty:Nat} {pos:String} {af:Array Edge} {T e:TypeId} {x y z:Operand}
section
variable {κ α:Type} [DecidableEq κ]
/-! ### Maps as lists of pairs -/
def BM (k:κ):List (κ×α)→Option α
  | []=>none
  | p :: r=>if k=p.1 then some p.2 else BM k r
def EE (k:κ) (v:α):List (κ×α)→List (κ×α)
  | []=>[(k,v)]
  | p :: r=>if k=p.1 then (k,v) :: r else p :: EE k v r
def CG (k:κ):List (κ×α)→List (κ×α)
  | []=>[]
  | p :: r=>if k=p.1 then r else p :: CG k r
def zX (l:List (κ×α)) (k:κ) (z:α) (C:α→Prop):Prop:=C ((BM k l).getD z)
def kW (l:List (κ×α)) (k:κ) (z:α) (C:α→Bool→Prop):Prop:=C ((BM k l).getD z) (BM k l).isSome
inductive qQ:Bool→List Value→Value→Prop
  | a {cs:List Value}:qQ true cs (.agg cs.toArray)
  | s {v:Value}:qQ false [v] v
variable {ke:κ→Value} {El:EL α} {ag:Bool}
def EntsR (ke:κ→Value) (El:EL α) (ag:Bool) (I:IH):List MapEntry→List (κ×α)→Prop
  | [],[]=>True
  | e :: es,p :: l=>e.key=ke p.1∧(∃ cs,El.rep I cs p.2∧qQ ag cs e.val)∧EntsR ke El ag I es l
  | _,_=>False
theorem EntsR.mono {J:IH} (hle:I.le J):∀ {es:List MapEntry} {l:List (κ×α)},EntsR ke El ag I es l→EntsR ke El ag J es l
  | [],[],_=>trivial
  | _ :: _,_ :: _,⟨h1,⟨cs,h2,h3⟩,h4⟩=>⟨h1,⟨cs,El.mono hle h2,h3⟩,h4.mono hle⟩
  | [],_ :: _,h=>h.elim
  | _ :: _,[],h=>h.elim
def Stamped (l:List MapEntry) (clock:Nat):Prop:=(l.map (·.born)).Nodup∧∀ e∈l,e.born<clock
theorem Stamped.push {l:List MapEntry} {clock:Nat} {e:MapEntry} (h:Stamped l clock) (he:e.born=clock):Stamped (l++[e]) (clock+1):=by
  refine ⟨?_,fun x hx=>?_⟩
  · rw [List.map_append,List.nodup_append]
    refine ⟨h.1,by simp,fun a ha b hb=>?_⟩
    simp only [List.map_cons,List.map_nil,List.mem_singleton] at hb
    obtain ⟨x,hx,rfl⟩:=List.mem_map.1 ha
    have:=h.2 x hx
    omega
  · rcases List.mem_append.1 hx with hx | hx
    · have:=h.2 x hx; omega
    · rw [List.mem_singleton] at hx; subst hx; omega
theorem WS {β γ:Type} {f:β→β} {g:β→γ} (hf:∀ x,g (f x)=g x):∀ (l:List β) (i:Nat),(l.modify i f).map g=l.map g
  | [],0=>rfl
  | [],_+1=>rfl
  | x :: r,0=>by simp [List.modify_zero_cons,hf]
  | x :: r,i+1=>by simp [List.modify_succ_cons,WS hf r i]
theorem Stamped.modify {l:List MapEntry} {clock i:Nat} {f:MapEntry→MapEntry} (h:Stamped l clock) (hf:∀ e,(f e).born=e.born):Stamped (l.modify i f) clock:=by
  have e:=WS (g:=fun e:MapEntry=>e.born) hf l i
  refine ⟨by rw [e]; exact h.1,fun x hx=>?_⟩
  have hm:x.born∈(l.modify i f).map (·.born):=List.mem_map_of_mem hx
  rw [e] at hm
  obtain ⟨y,hy,hxy⟩:=List.mem_map.1 hm
  rw [←hxy]; exact h.2 y hy
theorem Stamped.sub {l m:List MapEntry} {clock:Nat} (h:Stamped l clock) (hs:m.Sublist l):Stamped m clock:=⟨(hs.map _).nodup h.1,fun x hx=>h.2 x (hs.mem hx)⟩
def OwnMap (ke:κ→Value) (El:EL α) (ag:Bool) (b:Nat) (kvs:List (κ×α)):HA where
  holds I h:=∃ es clock,h b=some (.map es clock)∧EntsR ke El ag I es.toList kvs∧Stamped es.toList clock
  mono:=fun hI hh ⟨es,clock,h1,h2,h3⟩=>⟨es,clock,hh _ _ h1,h2.mono hI,h3⟩
def RZ (k:κ):List MapEntry→List κ→Nat→Option (Nat×Value)
  | e :: es,x :: ks,j=>if k=x then some (j,e.val) else RZ k es ks (j+1)
  | _,_,_=>none
structure X4 (P:Program) (kt:TypeId) (ke:κ→Value):Prop where
  chk:∀ e k w,(Instr.checkKey e 10000 kt (ke k)).run P w=.ok () w
  find:∀ (k:κ) (es:List MapEntry) (ks:List κ) (w:World),es.map (·.key)=ks.map ke→(Instr.findKey kt (ke k) es).run P w=.ok (RZ k es ks 0) w
  same:∀ k,Instr.sameBits 10000 (ke k) (ke k)=true
theorem eX {q:IntKind} (k:Int):∀ (es:List MapEntry) (ks:List Int) (j:Nat),es.map (·.key)=ks.map (Value.int q)→Instr.findNow (.int q) (.int q k) es j=some (RZ k es ks j)
  | [],[],_,_=>rfl
  | e :: es,x :: ks,j,h=>by
    simp only [List.map_cons,List.cons.injEq] at h
    simp only [Instr.findNow,h.1,Instr.sameNow,if_true]
    by_cases hk:k=x
    · subst hk; simp [RZ]
    · have:(k==x)=false:=by simpa using hk
      simp only [this,RZ,hk,if_false]
      exact eX k es ks (j+1) h.2
  | [],_ :: _,_,h=>by simp at h
  | _ :: _,[],_,h=>by simp at h
theorem LV {q:IntKind} {kt:TypeId} (hd:P.underlying kt=some (.int q)):X4 P kt (Value.int q) where
  chk e k w:=by
    show (Instr.checkKey e (9999+1) kt _).run P w=_
    unfold Instr.checkKey
    simp only [Sem.run_bind,run_underlying hd,Result.andThen_ok]
    rfl
  find k es ks w h:=by simp [Instr.findKey,run_underlying hd,eX k es ks 0 h]
  same k:=by simp [Instr.sameBits]
theorem EntsR.keys:∀ {es:List MapEntry} {l:List (κ×α)},EntsR ke El ag I es l→es.map (·.key)=(l.map (·.1)).map ke
  | [],[],_=>rfl
  | _ :: _,_ :: _,⟨h1,_,h2⟩=>by simp only [List.map_cons,h1]; rw [h2.keys]
  | [],_ :: _,h=>h.elim
  | _ :: _,[],h=>h.elim
theorem EntsR.miss (k:κ):∀ {es:List MapEntry} {l:List (κ×α)} {j:Nat},EntsR ke El ag I es l→RZ k es (l.map (·.1)) j=none→BM k l=none∧(∀ v,EE k v l=l++[(k,v)])∧CG k l=l
  | [],[],_,_,_=>⟨rfl,fun _=>rfl,rfl⟩
  | _ :: _,p :: _,j,⟨_,_,h⟩,hf=>by
    simp only [List.map_cons,RZ] at hf
    split at hf
    · cases hf
    · rename_i hk
      obtain ⟨g1,g2,g3⟩:=EntsR.miss k h hf
      exact ⟨by simp [BM,hk,g1],fun v=>by simp [EE,hk,g2],by simp [CG,hk,g3]⟩
  | [],_ :: _,_,h,_=>h.elim
  | _ :: _,[],_,h,_=>h.elim
theorem EntsR.hit (k:κ):∀ {es:List MapEntry} {l:List (κ×α)} {j i:Nat} {v:Value},EntsR ke El ag I es l→RZ k es (l.map (·.1)) j=some (i,v) →
    ∃ i',i=j+i'∧(∃ e,es[i']? = some e∧e.key=ke k∧e.val=v)∧(∃ x cs,BM k l=some x∧El.rep I cs x∧qQ ag cs v) ∧
      (∀ (f:MapEntry→MapEntry) (x:α),(∀ e,e.key=ke k→(f e).key=ke k)→(∀ e,∃ cs,El.rep I cs x∧qQ ag cs (f e).val)→EntsR ke El ag I (es.modify i' f) (EE k x l))∧EntsR ke El ag I (es.eraseIdx i') (CG k l)
  | [],[],_,_,_,_,hf=>by cases hf
  | e :: es,p :: l,j,i,v,⟨h1,h2,h⟩,hf=>by
    simp only [List.map_cons,RZ] at hf
    split at hf
    · rename_i hk
      cases hf
      refine ⟨0,rfl,⟨e,rfl,by rw [h1,hk],rfl⟩,?_,?_,?_⟩
      · obtain ⟨cs,g1,g2⟩:=h2
        exact ⟨p.2,cs,by simp [BM,hk],g1,g2⟩
      · intro f x hf1 hf2
        simp only [List.modify_zero_cons,EE,hk,if_true]
        exact ⟨by rw [hf1 e (by rw [h1,hk]),hk],hf2 e,h⟩
      · simp only [List.eraseIdx_cons_zero,CG,hk,if_true]; exact h
    · rename_i hk
      obtain ⟨i',g0,g1,g2,g3,g4⟩:=EntsR.hit k h hf
      refine ⟨i'+1,by omega,by simpa using g1,?_,?_,?_⟩
      · obtain ⟨x,cs,e1,e2,e3⟩:=g2
        exact ⟨x,cs,by simp [BM,hk,e1],e2,e3⟩
      · intro f x hf1 hf2
        simp only [List.modify_succ_cons,EE,hk,if_false]
        exact ⟨h1,h2,g3 f x hf1 hf2⟩
      · simp only [List.eraseIdx_cons_succ,CG,hk,if_false]; exact ⟨h1,h2,g4⟩
  | [],_ :: _,_,_,_,h,_=>h.elim
  | _ :: _,[],_,_,_,h,_=>h.elim
theorem EntsR.push {k:κ} {x:α} {e:MapEntry} (hk:e.key=ke k) (hv:∃ cs,El.rep I cs x∧qQ ag cs e.val):∀ {es:List MapEntry} {l:List (κ×α)},EntsR ke El ag I es l→EntsR ke El ag I (es++[e]) (l++[(k,x)])
  | [],[],_=>⟨hk,hv,trivial⟩
  | _ :: _,_ :: _,⟨h1,h2,h⟩=>⟨h1,h2,EntsR.push hk hv h⟩
  | [],_ :: _,h=>h.elim
  | _ :: _,[],h=>h.elim
theorem EntsR.length:∀ {es:List MapEntry} {l:List (κ×α)},EntsR ke El ag I es l→es.length=l.length
  | [],[],_=>rfl
  | _ :: _,_ :: _,⟨_,_,h⟩=>by simp [h.length]
  | [],_ :: _,h=>h.elim
  | _ :: _,[],h=>h.elim
variable {b:Nat} {kvs:List (κ×α)} {kt et:TypeId} {k:κ}
theorem OwnMap.opn {r:List HA} (h:Sym w0 M I0 I (OwnMap ke El ag b kvs :: r) w):∃ es clock,(EntsR ke El ag I es.toList kvs∧Stamped es.toList clock)∧Sym w0 M I0 I (pto b (.map es clock) :: r) w:=by
  obtain ⟨hb,hi,hn,q,⟨h1,h2,hd',hl1,hl2,⟨es,clock,ha,hE,hSt⟩,hs'⟩,hk,hdj,hm⟩:=h
  exact ⟨es,clock,⟨hE,hSt⟩,hb,hi,hn,q,⟨h1,h2,hd',hl1,hl2,ha,hs'⟩,hk,hdj,hm⟩
theorem OwnMap.cls {r:List HA} {es:Array MapEntry} {clock:Nat} (hE:EntsR ke El ag I es.toList kvs∧Stamped es.toList clock) (h:Sym w0 M I0 I (pto b (.map es clock) :: r) w):Sym w0 M I0 I (OwnMap ke El ag b kvs :: r) w:=
  h.weaken fun _ hk=>⟨es,clock,hk,hE.1,hE.2⟩
theorem OwnMap.set {r:List HA} {es es':Array MapEntry} {clock clock':Nat} (hE:EntsR ke El ag I es'.toList kvs∧Stamped es'.toList clock') (h:Sym w0 M I0 I (pto b (.map es clock) :: r) w) :
    ∃ w',(setObj b (.map es' clock')).run P w=.ok () w'∧Sym w0 M I0 I (OwnMap ke El ag b kvs :: r) w':=by
  have hp:=h.pto
  refine ⟨_,MapKept.run_setObj_map _ hp,OwnMap.cls (clock:=clock') hE (h.upd rfl rfl rfl rfl (by simp) (fun q hq=>?_) ?_)⟩
  · show (w.heap.setIfInBounds b _)[q]? = _
    rw [Array.getElem?_setIfInBounds,if_neg (by omega)]
  · show (w.heap.setIfInBounds b _)[b]? = _
    have:=(Array.getElem?_eq_some_iff.1 hp).1
    rw [Array.getElem?_setIfInBounds,if_pos rfl,if_pos this]
theorem Ops.mkMap (ke:κ→Value) (El:EL α) (ag:Bool) (hb:Nat.blt d n.sz=true) (hf:fresh E d=true)
    (k':∀ b,Ops P ops l n ((d,.map (some b)) :: E) (Sym w0 M I0 I (OwnMap ke El ag b [] :: m)) Q):Ops P ops (⟨some d,.makeMap T none,ty,pos,af,none⟩ :: l) n E (Sym w0 M I0 I m) Q:=
  Ops.valx (fun v w'=>∃ b,v=.map (some b)∧Sym w0 M I0 I (OwnMap ke El ag b [] :: m) w') rfl rfl
    (fun c w ho hs'=>⟨.map (some w.heap.size),w.alloc (.map #[] 0),by simp [execOp,Instr.makeMap],_,rfl,OwnMap.cls ⟨by trivial,by simp [Stamped]⟩ (hs'.alloc _)⟩) hb hf
    (fun v c w ho ⟨b,hv,hs'⟩=>by subst hv; exact k' b c w ho hs')
theorem X5 {r:List HA} (K:X4 P kt ke) (hT:P.underlying T=some (.map kt et)) {zv:Value} {z:α} (hz:∀ w,(zeroValue et).run P w=.ok zv w) (hzr:∃ cs,El.rep I cs z∧qQ ag cs zv)
    (h:Sym w0 M I0 I (OwnMap ke El ag b kvs :: r) w) (ok:Bool) :
    ∃ v cs,El.rep I cs ((BM k kvs).getD z)∧qQ ag cs v∧(Instr.lookup T (.map (some b)) (ke k) ok).run P w=.ok (if ok then .tuple #[v,.bool (BM k kvs).isSome] else v) w:=by
  obtain ⟨es,clock,⟨hE,hSt⟩,hs⟩:=OwnMap.opn h
  have hp:=hs.pto
  have hfd:=K.find k es.toList (kvs.map (·.1)) w hE.keys
  cases hf:RZ k es.toList (kvs.map (·.1)) 0 with
  | none=>
    obtain ⟨g1,_,_⟩:=hE.miss k hf
    obtain ⟨cs,g2,g3⟩:=hzr
    refine ⟨zv,cs,by rw [g1]; exact g2,g3,?_⟩
    rw [g1]
    simp only [Instr.lookup,Sem.run_bind,run_underlying hT,Result.andThen_ok,MapKept.run_getObj_map hp,Sem.run_pure,K.chk,hfd,hf,hz]
    cases ok <;> rfl
  | some iv=>
    obtain ⟨i,v⟩:=iv
    obtain ⟨i',_,_,⟨x,cs,g1,g2,g3⟩,_,_⟩:=hE.hit k hf
    refine ⟨v,cs,by rw [g1]; exact g2,g3,?_⟩
    rw [g1]
    simp only [Instr.lookup,Sem.run_bind,run_underlying hT,Result.andThen_ok,MapKept.run_getObj_map hp,Sem.run_pure,K.chk,hfd,hf]
    cases ok <;> rfl
theorem Ops.lookM {zv:Value} {z:α} {C:α→Prop} (K:X4 P kt ke) (hT:P.underlying T=some (.map kt et)) (hz:∀ w,(zeroValue et).run P w=.ok zv w) (hzr:∃ cs,El.rep I cs z∧qQ ag cs zv)
    (hA:Del m (OwnMap ke El ag b kvs) m') (hx:ev E x=some (.map (some b))) (hy:ev E y=some (ke k)) (hd:zX kvs k z C) (hb:Nat.blt d n.sz=true) (hf:fresh E d=true)
    (k':∀ v r cs,C r→El.rep I cs r→qQ ag cs v→Ops P ops l n ((d,v) :: E) (Sym w0 M I0 I m) Q):Ops P ops (⟨some d,.lookup T x y false,ty,pos,af,none⟩ :: l) n E (Sym w0 M I0 I m) Q:=
  Ops.valx (fun v w'=>(∃ cs,El.rep I cs ((BM k kvs).getD z)∧qQ ag cs v)∧Sym w0 M I0 I m w') rfl rfl
    (fun c w ho hs=>by
      obtain ⟨v,cs,g1,g2,g3⟩:=X5 (k:=k) K hT hz hzr (hs.del hA) false
      refine ⟨v,w,?_,⟨cs,g1,g2⟩,hs⟩
      simp [execOp,ho.eval hx,ho.eval hy,g3]) hb hf
    (fun v c w ho ⟨⟨cs,g1,g2⟩,hs⟩=>k' v _ cs hd g1 g2 c w ho hs)
theorem Ops.lookM2 {zv:Value} {z:α} {C:α→Bool→Prop} (K:X4 P kt ke) (hT:P.underlying T=some (.map kt et)) (hz:∀ w,(zeroValue et).run P w=.ok zv w) (hzr:∃ cs,El.rep I cs z∧qQ ag cs zv)
    (hA:Del m (OwnMap ke El ag b kvs) m') (hx:ev E x=some (.map (some b))) (hy:ev E y=some (ke k)) (hd:kW kvs k z C) (hb:Nat.blt d n.sz=true) (hf:fresh E d=true)
    (k':∀ v r t cs,C r t→El.rep I cs r→qQ ag cs v→Ops P ops l n ((d,.tuple #[v,.bool t]) :: E) (Sym w0 M I0 I m) Q):Ops P ops (⟨some d,.lookup T x y true,ty,pos,af,none⟩ :: l) n E (Sym w0 M I0 I m) Q:=
  Ops.valx (fun u w'=>(∃ v cs,u=.tuple #[v,.bool (BM k kvs).isSome]∧El.rep I cs ((BM k kvs).getD z)∧qQ ag cs v)∧Sym w0 M I0 I m w') rfl rfl
    (fun c w ho hs=>by
      obtain ⟨v,cs,g1,g2,g3⟩:=X5 (k:=k) K hT hz hzr (hs.del hA) true
      refine ⟨_,w,?_,⟨v,cs,rfl,g1,g2⟩,hs⟩
      simp [execOp,ho.eval hx,ho.eval hy,g3]) hb hf
    (fun u c w ho ⟨⟨v,cs,hu,g1,g2⟩,hs⟩=>by subst hu; exact k' v _ _ cs hd g1 g2 c w ho hs)
theorem Ops.updM {v:α} {u:Value} (K:X4 P kt ke) (hT:P.underlying T=some (.map kt et)) (hA:At m (OwnMap ke El ag b kvs) m' (OwnMap ke El ag b (EE k v kvs))) (hx:ev E x=some (.map (some b))) (hy:ev E y=some (ke k)) (hv:ev E z=some u)
    (hr:∃ cs,El.rep I cs v∧qQ ag cs u) (k':Ops P ops l n E (Sym w0 M I0 I m') Q):Ops P ops (⟨none,.mapUpdate T x y z,ty,pos,af,none⟩ :: l) n E (Sym w0 M I0 I m) Q:=
  Ops.act rfl rfl (fun c w ho hs=>by
    obtain ⟨r,h2,h3⟩:=hA.del
    obtain ⟨es,clock,⟨hE,hSt⟩,hs1⟩:=OwnMap.opn (hs.del h2)
    have hp:=hs1.pto
    have hfd:=K.find k es.toList (kvs.map (·.1)) w hE.keys
    cases hf:RZ k es.toList (kvs.map (·.1)) 0 with
    | none=>
      obtain ⟨_,g2,_⟩:=hE.miss k hf
      obtain ⟨w',hr',hs'⟩:=OwnMap.set (P:=P) (es':=es.push { key:=ke k,val:=u,born:=clock }) (clock':=clock+1) (kvs:=EE k v kvs) (by rw [g2,Array.toList_push]; exact ⟨EntsR.push (ke:=ke) (e:={ key:=ke k,val:=u,born:=clock }) rfl hr hE,hSt.push rfl⟩) hs1
      refine ⟨w',?_,hs'.undel h3⟩
      simp only [execOp,ho.eval hx,ho.eval hy,ho.eval hv,Instr.mapUpdate,Sem.run_bind,run_underlying hT,Result.andThen_ok,MapKept.run_getObj_map hp,K.chk,hfd,hf,hr',Sem.run_pure]
    | some iv=>
      obtain ⟨i,u'⟩:=iv
      obtain ⟨i',hi,⟨e0,q1,q2,q3⟩,_,g3,_⟩:=hE.hit k hf
      have hi':i'=i:=by omega
      subst hi'
      have hkey:((es[i']?.map (·.key)).getD (ke k))=ke k:=by
        rw [←Array.getElem?_toList,q1]; simp [q2]
      obtain ⟨w',hr',hs'⟩:=OwnMap.set (P:=P) (es':=es.modify i' fun e=>{ e with key:=ke k,val:=u }) (clock':=clock) (kvs:=EE k v kvs) (by rw [Array.toList_modify]; exact ⟨g3 _ _ (fun _ _=>rfl) (fun _=>hr),hSt.modify fun _=>rfl⟩) hs1
      refine ⟨w',?_,hs'.undel h3⟩
      simp only [execOp,ho.eval hx,ho.eval hy,ho.eval hv,Instr.mapUpdate,Sem.run_bind,run_underlying hT,Result.andThen_ok,MapKept.run_getObj_map hp,K.chk,hfd,hf,hkey,Instr.keyThatStays,K.same,if_true,hr',Sem.run_pure]) k'
theorem Ops.delM {tys:Array TypeId} (K:X4 P kt ke) (hT:P.underlying T=some (.map kt et)) (htys:tys[0]? = some T) (hA:At m (OwnMap ke El ag b kvs) m' (OwnMap ke El ag b (CG k kvs))) (hx:ev E x=some (.map (some b))) (hy:ev E y=some (ke k))
    (k':Ops P ops l n E (Sym w0 M I0 I m') Q):Ops P ops (⟨none,.call ⟨.builtin .delete,#[x,y],tys⟩,ty,pos,af,none⟩ :: l) n E (Sym w0 M I0 I m) Q:=
  Ops.val0 rfl rfl (fun c w ho hs=>by
    obtain ⟨r,h2,h3⟩:=hA.del
    obtain ⟨es,clock,⟨hE,hSt⟩,hs1⟩:=OwnMap.opn (hs.del h2)
    have hp:=hs1.pto
    have hfd:=K.find k es.toList (kvs.map (·.1)) w hE.keys
    have e0:(#[x,y].map c.eval) = #[.map (some b),ke k]:=by simp [ho.eval hx,ho.eval hy]
    cases hf:RZ k es.toList (kvs.map (·.1)) 0 with
    | none=>
      obtain ⟨_,_,g3⟩:=hE.miss k hf
      obtain ⟨w',hr',hs'⟩:=OwnMap.set (P:=P) (es':=es) (clock':=clock) (kvs:=CG k kvs) (by rw [g3]; exact ⟨hE,hSt⟩) hs1
      refine ⟨.tuple #[],w',?_,hs'.undel h3⟩
      simp [execOp,resolve,e0,invoke,builtin,Builtin.delete_,htys,run_underlying hT,MapKept.run_getObj_map hp,K.chk,hfd,hf,hr']
    | some iv=>
      obtain ⟨i,u'⟩:=iv
      obtain ⟨i',hi,_,_,_,g4⟩:=hE.hit k hf
      have hi':i'=i:=by omega
      subst hi'
      obtain ⟨w',hr',hs'⟩:=OwnMap.set (P:=P) (es':=es.eraseIdxIfInBounds i') (clock':=clock) (kvs:=CG k kvs) (by
        have e1:(es.eraseIdxIfInBounds i').toList=es.toList.eraseIdx i':=by
          unfold Array.eraseIdxIfInBounds
          split
          · simp
          · rw [List.eraseIdx_of_length_le (by simp; omega)]
        rw [e1]; exact ⟨g4,hSt.sub (List.eraseIdx_sublist _ _)⟩) hs1
      refine ⟨.tuple #[],w',?_,hs'.undel h3⟩
      simp [execOp,resolve,e0,invoke,builtin,Builtin.delete_,htys,run_underlying hT,MapKept.run_getObj_map hp,K.chk,hfd,hf,hr']) k'
theorem qR {kd:TypeDesc} (hn:∀ k x,Instr.sameNow kd (ke k) (ke x)=none) (k:κ):∀ (es:List MapEntry) (ks:List κ),es.map (·.key)=ks.map ke→Instr.findNow kd (ke k) es 0=if es=[] then some none else none
  | [],[],_=>by simp [Instr.findNow]
  | e :: es,x :: ks,h=>by
    simp only [List.map_cons,List.cons.injEq] at h
    simp [Instr.findNow,h.1,hn]
  | [],_ :: _,h=>by simp at h
  | _ :: _,[],h=>by simp at h
theorem Z4 (heq:∀ (k x:κ) (w:World),(Op.equal kt (ke k) (ke x)).run P w=.ok (decide (k=x)) w) (k:κ):∀ (es:List MapEntry) (ks:List κ) (j:Nat) (w:World),es.map (·.key)=ks.map ke→(Instr.findAsking kt (ke k) es j).run P w=.ok (RZ k es ks j) w
  | [],[],_,_,_=>rfl
  | e :: es,x :: ks,j,w,h=>by
    simp only [List.map_cons,List.cons.injEq] at h
    simp only [Instr.findAsking,Sem.run_bind,h.1,heq,Result.andThen_ok]
    by_cases hk:k=x
    · simp [hk,RZ]
    · simp only [hk,decide_false,Bool.false_eq_true,if_false,RZ]
      exact Z4 heq k es ks (j+1) w h.2
  | [],_ :: _,_,_,h=>by simp at h
  | _ :: _,[],_,_,h=>by simp at h
theorem AbK {kd:TypeDesc} (hd:P.underlying kt=some kd) (hn:∀ k x,Instr.sameNow kd (ke k) (ke x)=none) (heq:∀ (k x:κ) (w:World),(Op.equal kt (ke k) (ke x)).run P w=.ok (decide (k=x)) w)
    (hchk:∀ e k w,(Instr.checkKey e 10000 kt (ke k)).run P w=.ok () w) (hsame:∀ k,Instr.sameBits 10000 (ke k) (ke k)=true):X4 P kt ke where
  chk:=hchk
  find k es ks w h:=by
    have h1:=qR hn k es ks h
    simp only [Instr.findKey,Sem.run_bind,run_underlying hd,Result.andThen_ok,h1]
    by_cases h0:es=[]
    · subst h0
      cases ks with
      | nil=>rfl
      | cons=>simp at h
    · rw [if_neg h0]
      exact Z4 heq k es ks 0 w h
  same:=hsame
def CP (x:Int×Int):Value:=.agg #[.int .i64 x.1,.int .i64 x.2]
theorem Ae4 (d:Nat) {t e:TypeId} {i:TypeInfo} (hA:P.underlying t=some (.array 2 e)) (hi:P.info? e=some i) (he:P.underlying e=some (.int .i64)) (hs:P.cellsOf e=1) (ha:∀ w,(isAgg e).run P w=.ok false w) (k x:Int×Int) (w:World) :
    (Op.equalIn (d+2) t (CP k) (CP x)).run P w=.ok (decide (k=x)) w:=by
  obtain ⟨k1,k2⟩:=k
  obtain ⟨x1,x2⟩:=x
  unfold CP
  rw [run_equalIn_array w (d+1) _ _ hA hi]
  have h1:=fun a b=>run_equalIn_int (P:=P) w d e .i64 .i64 a b he
  simp only [hs,show List.range 2=[0,1] from rfl,Op.eqItems,Sem.run_bind,part,ha,Result.andThen_ok]
  simp [h1]
  by_cases e1:k1=x1
  · by_cases e2:k2=x2 <;> simp [e1,e2,ha,h1]
  · simp [e1,ha]
theorem Ae5 {kt e:TypeId} {i:TypeInfo} (hA:P.underlying kt=some (.array 2 e)) (hi:P.info? e=some i) (he:P.underlying e=some (.int .i64)) (hs:P.cellsOf e=1) (ha:∀ w,(isAgg e).run P w=.ok false w) (hz:∀ w,(sizeOf e).run P w=.ok 1 w):X4 P kt CP:=by
  refine AbK hA (fun _ _=>rfl) (fun k x w=>Ae4 9998 hA hi he hs ha k x w) (fun em k w=>?_) (fun k=>?_)
  · show (Instr.checkKey em (9998+1+1) kt _).run P w=_
    unfold Instr.checkKey CP
    simp only [Sem.run_bind,run_underlying hA,Result.andThen_ok]
    have hc:∀ (a:Int) (w:World),(Instr.checkKey em (9998+1) e (.int .i64 a)).run P w=.ok () w:=fun a w=>by
      unfold Instr.checkKey
      simp only [Sem.run_bind,run_underlying he,Result.andThen_ok]
      rfl
    simp [Std.Legacy.Range.forIn_eq_forIn_range',Std.Legacy.Range.size,List.range',hz,part,ha,hc]
  · simp [CP,Instr.sameBits]
def xO (rest:List (κ×α)) (A:Prop) (B:κ×α→List (κ×α)→Prop):Prop:=(rest=[]→A)∧∀ (i:Nat) (p:κ×α),rest[i]? = some p→B p (rest.eraseIdx i)
def AbL (cur:Option (Value×Value)) (es:List MapEntry) (clock c0:Nat) (seen:Array Nat):Prop:=match cur with
  | none=>True
  | some kv=>clock=c0∧∃ e∈es,seen.back? = some e.born∧e.key=kv.1∧e.val=kv.2
def OwnIt (ke:κ→Value) (El:EL α) (ag:Bool) (b r:Nat) (kvs rest:List (κ×α)) (cur:Option (Value×Value)):HA where
  holds I h:=∃ es clock since seen c0,h b=some (.map es clock)∧EntsR ke El ag I es.toList kvs∧Stamped es.toList clock∧h r=some (.mapIter (some b) since seen c0)∧(∀ e∈es.toList,e.born<since)∧since≤c0∧since≤clock∧EntsR ke El ag I (leftOf es seen).toList rest∧AbL cur es.toList clock c0 seen
  mono:=fun hI hh ⟨es,clock,since,seen,c0,h1,h2,h3,h4,h5,h6,h7,h8,h9⟩=>⟨es,clock,since,seen,c0,hh _ _ h1,h2.mono hI,h3,hh _ _ h4,h5,h6,h7,h8.mono hI,h9⟩
theorem EntsR.get:∀ {es:List MapEntry} {l:List (κ×α)} {i:Nat} {e:MapEntry},EntsR ke El ag I es l→es[i]? = some e→∃ p,l[i]? = some p∧e.key=ke p.1∧∃ cs,El.rep I cs p.2∧qQ ag cs e.val
  | _ :: _,p :: _,0,_,⟨h1,h2,_⟩,he=>by cases he; exact ⟨p,rfl,h1,h2⟩
  | _ :: _,_ :: _,i+1,_,⟨_,_,h⟩,he=>by
    obtain ⟨p,g⟩:=EntsR.get (i:=i) h (by simpa using he)
    exact ⟨p,by simpa using g.1,g.2⟩
  | [],[],_,_,_,he=>by simp at he
  | [],_ :: _,_,_,h,_=>h.elim
  | _ :: _,[],_,_,h,_=>h.elim
theorem EntsR.erase:∀ {es:List MapEntry} {l:List (κ×α)} (i:Nat),EntsR ke El ag I es l→EntsR ke El ag I (es.eraseIdx i) (l.eraseIdx i)
  | [],[],_,_=>trivial
  | _ :: _,_ :: _,0,⟨_,_,h⟩=>h
  | _ :: _,_ :: _,i+1,⟨h1,h2,h⟩=>⟨h1,h2,EntsR.erase i h⟩
  | [],_ :: _,_,h=>h.elim
  | _ :: _,[],_,h=>h.elim
theorem aR {e:MapEntry}:∀ {l:List MapEntry} {i:Nat},(l.map (·.born)).Nodup→l[i]? = some e→l.filter (fun x=>!(x.born==e.born))=l.eraseIdx i
  | [],_,_,h=>by simp at h
  | x :: r,0,hn,h=>by
    cases h
    simp only [List.map_cons,List.nodup_cons] at hn
    simp only [List.filter_cons,beq_self_eq_true,Bool.not_true,Bool.false_eq_true,if_false,List.eraseIdx_cons_zero]
    refine List.filter_eq_self.2 fun y hy=>?_
    have:y.born≠e.born:=fun e'=>hn.1 (e'▸List.mem_map_of_mem hy)
    simpa using this
  | x :: r,i+1,hn,h=>by
    simp only [List.map_cons,List.nodup_cons] at hn
    have h':r[i]? = some e:=by simpa using h
    have hne:x.born≠e.born:=fun e'=>hn.1 (e'▸List.mem_map_of_mem (List.mem_of_getElem? h'))
    have hb:(x.born==e.born)=false:=by simpa using hne
    simp only [List.filter_cons,hb,Bool.not_false,if_true,List.eraseIdx_cons_succ]
    rw [aR hn.2 h']
theorem nT {es:Array MapEntry} {seen:Array Nat} {e:MapEntry} {i:Nat} {clock:Nat} (hS:Stamped es.toList clock) (hi:(leftOf es seen).toList[i]? = some e):(leftOf es (seen.push e.born)).toList=(leftOf es seen).toList.eraseIdx i:=by
  have hsub:(leftOf es seen).toList.Sublist es.toList:=by unfold leftOf; rw [Array.toList_filter]; exact List.filter_sublist
  have hn:((leftOf es seen).toList.map (·.born)).Nodup:=(hsub.map _).nodup hS.1
  rw [←aR hn hi]
  unfold leftOf
  rw [Array.toList_filter,Array.toList_filter,List.filter_filter]
  congr 1
  funext x
  by_cases h1:x.born=e.born
  · simp [h1]
  · have:(x.born==e.born)=false:=by simpa using h1
    simp [this,h1]
theorem Sym.join2 {A B C:HA} {l:List HA} (h:Sym w0 M I0 I (A :: B :: l) w) (hc:∀ h1 h2,h1.disj h2→A.holds I h1→B.holds I h2→C.holds I (h1.union h2)):Sym w0 M I0 I (C :: l) w:=by
  obtain ⟨hb,hi,hn,k,⟨h1,k1,hd,hl1,hl2,ha,h2,h3,hd',hl3,hl4,hB,hs⟩,hk,hdj,hm⟩:=h
  have d12:h1.disj h2:=hd.mono (IH.le.refl _) hl3
  have d13:h1.disj h3:=hd.mono (IH.le.refl _) hl4
  refine ⟨hb,hi,hn,k,⟨h1.union h2,h3,?_,IH.union_le hl1 (hl3.trans hl2),hl4.trans hl2,hc h1 h2 d12 ha hB,hs⟩,hk,hdj,hm⟩
  intro b
  rcases d13 b with h | h
  · rcases hd' b with h' | h'
    · left; simp [IH.union,h,h']
    · exact .inr h'
  · exact .inr h
theorem Sym.split2 {A B C:HA} {l:List HA} (h:Sym w0 M I0 I (C :: l) w) (hc:∀ q,C.holds I q→∃ h1 h2,h1.disj h2∧h1.le q∧h2.le q∧A.holds I h1∧B.holds I h2):Sym w0 M I0 I (A :: B :: l) w:=by
  obtain ⟨hb,hi,hn,k,⟨q,k1,hd,hl1,hl2,ha,hs⟩,hk,hdj,hm⟩:=h
  obtain ⟨h1,h2,d12,e1,e2,hA,hB⟩:=hc q ha
  refine ⟨hb,hi,hn,k,⟨h1,h2.union k1,?_,e1.trans hl1,IH.union_le (e2.trans hl1) hl2,hA,h2,k1,hd.mono e2 (IH.le.refl _),IH.le_union_left _ _,IH.le_union_right (hd.mono e2 (IH.le.refl _)),hB,hs⟩,hk,hdj,hm⟩
  intro b
  rcases d12 b with h | h
  · exact .inl h
  · rcases (hd.mono e1 (IH.le.refl k1)) b with h' | h'
    · exact .inl h'
    · right; simp [IH.union,h,h']
variable {r:Nat} {rest:List (κ×α)}
def pto2 (b:Nat) (o:Obj) (r:Nat) (o':Obj):HA where
  holds _ h:=h b=some o∧h r=some o'
  mono:=fun _ hh h=>⟨hh _ _ h.1,hh _ _ h.2⟩
theorem Sym.pto2 {b r:Nat} {o o':Obj} {l:List HA} (hne:r≠b) (h:Sym w0 M I0 I (Fw.pto2 b o r o' :: l) w):Sym w0 M I0 I (Fw.pto r o' :: Fw.pto b o :: l) w:=by
  refine h.split2 fun q hq=>⟨FQ r o',FQ b o,fun c=>?_,fun c p e=>?_,fun c p e=>?_,by simp [Fw.pto,FQ],by simp [Fw.pto,FQ]⟩
  · by_cases e:c=r
    · right; subst e; simp [FQ,hne]
    · left; simp [FQ,e]
  · simp only [FQ] at e; split at e
    · rename_i h'; subst h'; cases e; exact hq.2
    · cases e
  · simp only [FQ] at e; split at e
    · rename_i h'; subst h'; cases e; exact hq.1
    · cases e
theorem OwnIt.opn {cur:Option (Value×Value)} {l:List HA} (h:Sym w0 M I0 I (OwnIt ke El ag b r kvs rest cur :: l) w):∃ es clock since seen c0,EntsR ke El ag I es.toList kvs∧Stamped es.toList clock∧(∀ e∈es.toList,e.born<since)∧since≤c0∧since≤clock∧EntsR ke El ag I (leftOf es seen).toList rest∧AbL cur es.toList clock c0 seen ∧
    Sym w0 M I0 I (pto r (.mapIter (some b) since seen c0) :: pto b (.map es clock) :: l) w:=by
  obtain ⟨hb,hi,hn,q,⟨q1,q2,hd',hl1,hl2,⟨es,clock,since,seen,c0,g1,g2,g3,g4,g5,g6,g7,g8,g9⟩,hs'⟩,hkk,hdj,hm⟩:=h
  have hne:r≠b:=fun e=>by subst e; rw [g1] at g4; cases g4
  have h2:Sym w0 M I0 I (Fw.pto2 b (.map es clock) r (.mapIter (some b) since seen c0) :: l) w:=⟨hb,hi,hn,q,⟨q1,q2,hd',hl1,hl2,⟨g1,g4⟩,hs'⟩,hkk,hdj,hm⟩
  exact ⟨es,clock,since,seen,c0,g2,g3,g5,g6,g7,g8,g9,h2.pto2 hne⟩
theorem OwnIt.cls {cur:Option (Value×Value)} {l:List HA} {es:Array MapEntry} {clock since c0:Nat} {seen:Array Nat} (h2:EntsR ke El ag I es.toList kvs) (h3:Stamped es.toList clock) (h5:∀ e∈es.toList,e.born<since) (h6:since≤c0) (h7:since≤clock) (h8:EntsR ke El ag I (leftOf es seen).toList rest) (h9:AbL cur es.toList clock c0 seen)
    (h:Sym w0 M I0 I (pto r (.mapIter (some b) since seen c0) :: pto b (.map es clock) :: l) w):Sym w0 M I0 I (OwnIt ke El ag b r kvs rest cur :: l) w:=
  h.join2 fun q1 q2 hd ha hb=>⟨es,clock,since,seen,c0,IH.le_union_right hd _ _ hb,h2,h3,IH.le_union_left q1 q2 _ _ ha,h5,h6,h7,h8,h9⟩
theorem Ops.rangeM (hT:P.underlying T=some (.map kt et)) (hA:Del m (OwnMap ke El ag b kvs) m') (hx:ev E x=some (.map (some b))) (hb:Nat.blt d n.sz=true) (hf:fresh E d=true)
    (k':∀ r,Ops P ops l n ((d,.pointer (some ⟨r,0,none⟩)) :: E) (Sym w0 M I0 I (OwnIt ke El ag b r kvs kvs none :: m')) Q):Ops P ops (⟨some d,.range T x,ty,pos,af,none⟩ :: l) n E (Sym w0 M I0 I m) Q:=
  Ops.valx (fun v w'=>∃ r,v=.pointer (some ⟨r,0,none⟩)∧Sym w0 M I0 I (OwnIt ke El ag b r kvs kvs none :: m') w') rfl rfl
    (fun c w ho hs=>by
      obtain ⟨es,clock,⟨hE,hSt⟩,hs1⟩:=OwnMap.opn (hs.del hA)
      have hp:=hs1.pto
      refine ⟨.pointer (some ⟨w.heap.size,0,none⟩),w.alloc (.mapIter (some b) clock #[] clock),?_,_,rfl,OwnIt.cls (seen:=#[]) hE hSt hSt.2 (Nat.le_refl _) (Nat.le_refl _) ?_ trivial (hs1.alloc _)⟩
      · simp only [execOp,ho.eval hx,Instr.range,Sem.run_bind,run_underlying hT,Result.andThen_ok,MapKept.run_getObj_map hp,Sem.run_pure]
        rfl
      · have:leftOf es #[]=es:=by unfold leftOf; rw [Array.filter_eq_self]; simp
        rw [this]; exact hE) hb hf
    (fun v c w ho ⟨r,hv,hs⟩=>by subst hv; exact k' r c w ho hs)
theorem Ops.nextM {cur:Option (Value×Value)} {A:Prop} {B:κ×α→List (κ×α)→Prop} (hA:Del m (OwnIt ke El ag b r kvs rest cur) m') (hx:ev E x=some (.pointer (some ⟨r,0,none⟩))) (hd:xO rest A B) (hb:Nat.blt d n.sz=true) (hf:fresh E d=true)
    (k1:A→rest=[]→Ops P ops l n ((d,.tuple #[.bool false]) :: E) (Sym w0 M I0 I m) Q)
    (k2:∀ (p:κ×α) (rest':List (κ×α)) v cs,B p rest'→El.rep I cs p.2→qQ ag cs v→rest≠[]→Ops P ops l n ((d,.tuple #[.bool true,ke p.1,v]) :: E) (Sym w0 M I0 I (OwnIt ke El ag b r kvs rest' (some (ke p.1,v)) :: m')) Q) :
    Ops P ops (⟨some d,.next x false,ty,pos,af,none⟩ :: l) n E (Sym w0 M I0 I m) Q:=by
  intro c w ho hs
  obtain ⟨es,clock,since,seen,c0,hE,hSt,hold,hsc,hscl,hL,hcur,hs1⟩:=OwnIt.opn (hs.del hA)
  have hr:=hs1.pto
  have hbm:=(hs1.del (.s .z)).pto
  refine wpListIn_plain rfl fun K hK=>?_
  rcases run_next_at (P:=P) w ty r b since c0 seen es clock hr hbm hold hsc with ⟨h0,hrun⟩ | ⟨e,he,w1,hw1,hrun⟩
  · have hnil:rest=[]:=by
      have:=hL.length
      cases rest with
      | nil=>rfl
      | cons=>simp [h0] at this
    have hrun':(execOp c.eval ⟨some d,.next x false,ty,pos,af,none⟩).run P w=.ok (.value (.tuple #[.bool false])) w:=by simp [execOp,ho.eval hx,hrun]
    refine aM hrun' (by simp) ?_
    simp only [Oper.uponIn]
    exact hK _ _ (k1 (hd.1 hnil) hnil _ _ (ho.put hb hf _) hs)
  · obtain ⟨i,hi⟩:=List.getElem?_of_mem he
    obtain ⟨p,hp,hkey,cs,hrep,hof⟩:=hL.get hi
    have hrun':(execOp c.eval ⟨some d,.next x false,ty,pos,af,none⟩).run P w=.ok (.value (.tuple #[.bool true,e.key,e.val])) (ChangeMaps.setBlock w1 r (.mapIter (some b) since (seen.push e.born) clock)):=by simp [execOp,ho.eval hx,hrun]
    refine aM hrun' (by simp) ?_
    simp only [Oper.uponIn]
    have hs2:Sym w0 M I0 I (pto r (.mapIter (some b) since seen c0) :: pto b (.map es clock) :: m') w1:=by
      rcases hw1 with rfl | rfl
      · exact hs1
      · exact hs1.drew _ (Nat.le_succ _)
    have hr1:=hs2.pto
    have hs3:=hs2.upd (o':=.mapIter (some b) since (seen.push e.born) clock) (w':=ChangeMaps.setBlock w1 r (.mapIter (some b) since (seen.push e.born) clock)) rfl rfl rfl rfl (by simp [ChangeMaps.setBlock])
      (fun q hq=>by show (w1.heap.setIfInBounds r _)[q]? = _; rw [Array.getElem?_setIfInBounds,if_neg (by omega)])
      (by show (w1.heap.setIfInBounds r _)[r]? = _; have:=(Array.getElem?_eq_some_iff.1 hr1).1; rw [Array.getElem?_setIfInBounds,if_pos rfl,if_pos this])
    have hne:rest≠[]:=fun e'=>by rw [e'] at hp; simp at hp
    rw [hkey]
    refine hK _ _ (k2 p (rest.eraseIdx i) e.val cs (hd.2 i p hp) hrep hof hne _ _ (ho.put hb hf _) (OwnIt.cls hE hSt hold hscl hscl ?_ ⟨rfl,e,?_,by simp,hkey,rfl⟩ hs3))
    · rw [nT hSt hi]
      exact hL.erase i
    · have:e∈leftOf es seen:=by simpa using he
      unfold leftOf at this
      have:=(Array.mem_filter.1 this).1
      simpa using this
theorem Ops.entryM {kv vv:Value} (hA:Del m (OwnIt ke El ag b r kvs rest (some (kv,vv))) m') (hx:ev E x=some (.pointer (some ⟨r,0,none⟩))) (hb:Nat.blt d n.sz=true) (hf:fresh E d=true)
    (k':Ops P ops l n ((d,.tuple #[kv,vv]) :: E) (Sym w0 M I0 I (OwnIt ke El ag b r kvs rest none :: m')) Q):Ops P ops (⟨some d,.entry x,ty,pos,af,none⟩ :: l) n E (Sym w0 M I0 I m) Q:=by
  intro c w ho hs
  obtain ⟨es,clock,since,seen,c0,hE,hSt,hold,hsc,hscl,hL,⟨h1,e,h2,h3,h4,h5⟩,hs1⟩:=OwnIt.opn (hs.del hA)
  have hr:=hs1.pto
  have hbm:=(hs1.del (.s .z)).pto
  simp only at h4 h5
  refine wpListIn_plain rfl fun K hK=>?_
  obtain ⟨pre,hseen⟩:∃ pre:Array Nat,seen=pre.push e.born:=by
    refine ⟨seen.pop,?_⟩
    have hne:seen ≠ #[]:=fun h=>by rw [h] at h3; simp at h3
    have:=Array.back?_eq_some_iff.1 h3
    obtain ⟨ys,hys⟩:=this
    rw [hys]; simp
  subst hseen h1
  have hrun:=run_entry_at (P:=P) w r b since pre es clock e hr hbm h2 hSt.1
  have hrun':(execOp c.eval ⟨some d,.entry x,ty,pos,af,none⟩).run P w=.ok (.value (.tuple #[kv,vv])) w:=by simp [execOp,ho.eval hx,hrun,h4,h5]
  refine aM hrun' (by simp) ?_
  simp only [Oper.uponIn]
  exact hK _ _ (k' _ _ (ho.put hb hf _) (OwnIt.cls hE hSt hold hsc hscl hL trivial hs1))
end
theorem RepSl.ofNone {α:Type} {El:EL α} {cap:Nat} {xs:List α} {a:Option Addr} (h:RepSl El I a cap xs) (hb:a.isNone=true):xs=[]:=by
  cases xs with
  | nil=>rfl
  | cons x r=>obtain ⟨b,off,cs,h1,_⟩:=h.2 0 x rfl; subst h1; cases hb
def Ae6 {α:Type} (xs:List α) (A B:Prop):Prop:=(xs=[]→A)∧B
theorem kX (w:World) (d:Nat) (t e:TypeId) (a:Option Addr) (l c:Nat) (h:P.underlying t=some (.slice e)):(Op.equalIn (d+1) t (.slice a l c) (.slice none 0 0)).run P w=.ok a.isNone w:=by
  cases a <;> simp [Op.equalIn,run_underlying h]
theorem nU (w:World) (t e:TypeId) (a:Option Addr) (l c:Nat) (h:P.underlying t=some (.slice e)):(Op.equal t (.slice a l c) (.slice none 0 0)).run P w=.ok a.isNone w:=kX w 9999 t e a l c h
theorem Ops.eqNilS {S:World→Prop} {T':TypeId} {a:Option Addr} {k cap:Nat} (hT:P.underlying T=some (.slice e)) (hx:ev E x=some (.slice a k cap)) (hy:ev E y=some (.slice none 0 0)) (hb:Nat.blt d n.sz=true) (hf:fresh E d=true)
    (k':Ops P ops l n ((d,.bool a.isNone) :: E) S Q):Ops P ops (⟨some d,.binOp .eql T x y T',ty,pos,af,none⟩ :: l) n E S Q:=
  Ops.val rfl rfl (fun c w ho _=>by
    have hg:(eqGuard .eql T x y (.slice a k cap) (.slice none 0 0)).run P w=.ok () w:=by unfold eqGuard; rfl
    simp only [execOp,ho.eval hx,ho.eval hy,Sem.run_bind,hg,Result.andThen_ok,binOp]
    simp [nU w T e a k cap hT]) hb hf k'
end Go.Fw
