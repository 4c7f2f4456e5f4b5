/- The engine. -/
import Derived.Test.YtkbkaodgfedfmaaGreatFwH
import Derived.MapKept
import Derived.Maps.RangeRun
import Derived.ChangeKeysEq
set_option linter.unusedSectionVars false
namespace Go.Fw
set_option linter.unusedSimpArgs false
set_option linter.unusedVariables false
open Go Go.RowKit
variable {w0 w:World} {M:Nat→Prop} {I0 I:IH} {m m':List HA}
variable {P:Program} {n:FrK} {E:CZ} {Q:Exit→Act→World→Prop} {ops:Array Oper} {l:List Oper}
variable {d ty:Nat} {pos:String} {af:Array Edge} {T e:TypeId} {x y z:Operand}
variable {cur:Option (Value×Value)}
section
variable {κ α:Type} [DecidableEq κ]
/-! ### Maps as lists of pairs -/
def B9 (k:κ):List (κ×α)->Option α
 | []=>none
 | p :: r=>if k=p.1 then some p.2 else B9 k r
def DK (k:κ) (v:α):List (κ×α)->List (κ×α)
 | []=>[(k,v)]
 | p :: r=>if k=p.1 then (k,v) :: r else p :: DK k v r
def F5 (k:κ):List (κ×α)->List (κ×α)
 | []=>[]
 | p :: r=>if k=p.1 then r else p :: F5 k r
def lkP (l:List (κ×α)) (k:κ) (z:α) (C:α->Prop):Prop:=C ((B9 k l).getD z)
def AeP (l:List (κ×α)) (k:κ) (z:α) (C:α->Bool->Prop):Prop:=C ((B9 k l).getD z) (B9 k l).isSome
inductive xP:Bool→List Value→Value→Prop
 | a {cs:List Value}:xP true cs (.agg cs.toArray)
 | s {v:Value}:xP false [v] v
variable {ke:κ→Value} {El:EP α} {ag:Bool}
def EntsR (ke:κ->Value) (El:EP α) (ag:Bool) (I:IH):List MapEntry->List (κ×α)->Prop
 | [],[]=>True
 | e :: es,p :: l=>e.key=ke p.1∧(∃ cs,El.rep I cs p.2∧xP ag cs e.val)∧EntsR ke El ag I es l
 | _,_=>False
theorem EntsR.mono {J:IH} (D:I.le J):∀ {es:List MapEntry} {l:List (κ×α)},EntsR ke El ag I es l->EntsR ke El ag J es l
 | [],[],_=>trivial
 | _ :: _,_ :: _,⟨h1,⟨cs,h2,h3⟩,h4⟩=>⟨h1,⟨cs,El.mono D h2,h3⟩,h4.mono D⟩
 | [],_ :: _,h=>h.elim
 | _ :: _,[],h=>h.elim
def Stamped (l:List MapEntry) (clock:Nat):Prop:=(l.map (·.born)).Nodup∧∀ e∈l,e.born<clock
theorem Stamped.push {l:List MapEntry} {clock:Nat} {e:MapEntry} (h:Stamped l clock) (he:e.born=clock):Stamped (l++[e]) (clock+1):=by
 refine⟨?_,λx D=>?_⟩
 . rw[List.map_append,List.nodup_append];refine⟨h.1,by simp,λa K b J=>?_⟩;simp only[List.map_cons,List.map_nil,List.mem_singleton] at J;obtain⟨x,D,rfl⟩:=List.mem_map.1 K;have:=h.2 x D;omega
 . rcases List.mem_append.1 D with D | D
   . have:=h.2 x D; omega
   . rw[List.mem_singleton] at D; subst D; omega
theorem XR {β γ:Type} {f:β->β} {g:β->γ} (h:∀ x,g (f x)=g x):∀ (l:List β) (i:Nat),(l.modify i f).map g=l.map g
 | [],0=>rfl
 | [],_+1=>rfl
 | x :: r,0=>by simp[List.modify_zero_cons,h]
 | x :: r,i+1=>by simp[List.modify_succ_cons,XR h r i]
theorem Stamped.modify {l:List MapEntry} {clock i:Nat} {f:MapEntry->MapEntry} (h:Stamped l clock) (K:∀ e,(f e).born=e.born):Stamped (l.modify i f) clock:=by have e:=XR (g:=λe:MapEntry=>e.born) K l i;refine⟨by rw[e]; exact h.1,λx U=>?_⟩;have J:x.born∈(l.modify i f).map (·.born):=List.mem_map_of_mem U;rw[e] at J;obtain⟨y,O,D⟩:=List.mem_map.1 J;rw[<-D]; exact h.2 y O
theorem Stamped.sub {l m:List MapEntry} {clock:Nat} (h:Stamped l clock) (D:m.Sublist l):Stamped m clock:=⟨(D.map _).nodup h.1,λx J=>h.2 x (D.mem J)⟩
def OwnMap (ke:κ->Value) (El:EP α) (ag:Bool) (b:Nat) (kvs:List (κ×α)):HA where
 holds I h:=∃ es clock,h b=some (.map es clock)∧EntsR ke El ag I es.toList kvs∧Stamped es.toList clock
 mono:=λhI hh ⟨es,clock,h1,h2,h3⟩=>⟨es,clock,hh _ _ h1,h2.mono hI,h3⟩
def S7 (k:κ):List MapEntry->List κ->Nat->Option (Nat×Value)
 | e :: es,x :: ks,j=>if k=x then some (j,e.val) else S7 k es ks (j+1)
 | _,_,_=>none
structure bZ (P:Program) (kt:TypeId) (ke:κ→Value):Prop where
 chk:∀ e k w,(Instr.checkKey e 10000 kt (ke k)).run P w=.ok () w
 find:∀ (k:κ) (es:List MapEntry) (ks:List κ) (w:World),es.map (·.key)=ks.map ke→(Instr.findKey kt (ke k) es).run P w=.ok (S7 k es ks 0) w
 same:∀ k,Instr.sameBits 10000 (ke k) (ke k)=true
theorem kY {q:IntKind} (k:Int):∀ (es:List MapEntry) (D:List Int) (j:Nat),es.map (·.key)=D.map (Value.int q)->Instr.findNow (.int q) (.int q k) es j=some (S7 k es D j)
 | [],[],_,_=>rfl
 | e :: es,x :: D,j,h=>by
  simp only[List.map_cons,List.cons.injEq] at h;simp only[Instr.findNow,h.1,Instr.sameNow,if_true];by_cases hk:k=x
  . subst hk; simp[S7]
  . have:(k==x)=false:=by simpa using hk
    simp only[this,S7,hk,if_false];exact kY k es D (j+1) h.2
 | [],_ :: _,_,h=>by simp at h
 | _ :: _,[],_,h=>by simp at h
theorem L9 {q:IntKind} {kt:TypeId} (hd:P.underlying kt=some (.int q)):bZ P kt (Value.int q) where
 chk e k w:=by show(Instr.checkKey e (9999+1) kt _).run P w=_;unfold Instr.checkKey;simp only[Sem.run_bind,run_underlying hd,Result.andThen_ok];rfl
 find k es ks w h:=by simp[Instr.findKey,run_underlying hd,kY k es ks 0 h]
 same k:=by simp[Instr.sameBits]
theorem EntsR.keys:∀ {es:List MapEntry} {l:List (κ×α)},EntsR ke El ag I es l->es.map (·.key)=(l.map (·.1)).map ke
 | [],[],_=>rfl
 | _ :: _,_ :: _,⟨J,_,D⟩=>by simp only[List.map_cons,J]; rw[D.keys]
 | [],_ :: _,h=>h.elim
 | _ :: _,[],h=>h.elim
theorem EntsR.miss (k:κ):∀ {es:List MapEntry} {l:List (κ×α)} {j:Nat},EntsR ke El ag I es l->S7 k es (l.map (·.1)) j=none->B9 k l=none∧(∀ v,DK k v l=l++[(k,v)])∧F5 k l=l
 | [],[],_,_,_=>⟨rfl,λ_=>rfl,rfl⟩
 | _ :: _,p :: _,j,⟨_,_,h⟩,hf=>by
  simp only[List.map_cons,S7] at hf;split at hf
  . cases hf
  . rename_i hk;obtain⟨D,K,J⟩:=EntsR.miss k h hf;exact⟨by simp[B9,hk,D],λv=>by simp[DK,hk,K],by simp[F5,hk,J]⟩
 | [],_ :: _,_,h,_=>h.elim
 | _ :: _,[],_,h,_=>h.elim
theorem EntsR.hit (k:κ):∀ {es:List MapEntry} {l:List (κ×α)} {j i:Nat} {v:Value},EntsR ke El ag I es l->S7 k es (l.map (·.1)) j=some (i,v) ->
  ∃ K,i=j+K∧(∃ e,es[K]? = some e∧e.key=ke k∧e.val=v)∧(∃ x cs,B9 k l=some x∧El.rep I cs x∧xP ag cs v) ∧
    (∀ (f:MapEntry->MapEntry) (x:α),(∀ e,e.key=ke k->(f e).key=ke k)->(∀ e,∃ cs,El.rep I cs x∧xP ag cs (f e).val)->EntsR ke El ag I (es.modify K f) (DK k x l))∧EntsR ke El ag I (es.eraseIdx K) (F5 k l)
 | [],[],_,_,_,_,hf=>by cases hf
 | e :: es,p :: l,j,i,v,⟨h1,h2,h⟩,hf=>by
  simp only[List.map_cons,S7] at hf;split at hf
  . rename_i hk;cases hf;refine⟨0,rfl,⟨e,rfl,by rw[h1,hk],rfl⟩,?_,?_,?_⟩
    . obtain⟨cs,O,U⟩:=h2;exact⟨p.2,cs,by simp[B9,hk],O,U⟩
    . intro f x J D;simp only[List.modify_zero_cons,DK,hk,if_true];exact⟨by rw[J e (by rw[h1,hk]),hk],D e,h⟩
    . simp only[List.eraseIdx_cons_zero,F5,hk,if_true]; exact h
  . rename_i hk;obtain⟨K,g0,O,U,W,g4⟩:=EntsR.hit k h hf;refine⟨K+1,by omega,by simpa using O,?_,?_,?_⟩
    . obtain⟨x,cs,e1,Z,V⟩:=U;exact⟨x,cs,by simp[B9,hk,e1],Z,V⟩
    . intro f x J D;simp only[List.modify_succ_cons,DK,hk,if_false];exact⟨h1,h2,W f x J D⟩
    . simp only[List.eraseIdx_cons_succ,F5,hk,if_false]; exact⟨h1,h2,g4⟩
 | [],_ :: _,_,_,_,h,_=>h.elim
 | _ :: _,[],_,_,_,h,_=>h.elim
theorem EntsR.push {k:κ} {x:α} {e:MapEntry} (hk:e.key=ke k) (D:∃ cs,El.rep I cs x∧xP ag cs e.val):∀ {es:List MapEntry} {l:List (κ×α)},EntsR ke El ag I es l->EntsR ke El ag I (es++[e]) (l++[(k,x)])
 | [],[],_=>⟨hk,D,trivial⟩
 | _ :: _,_ :: _,⟨K,J,h⟩=>⟨K,J,EntsR.push hk D h⟩
 | [],_ :: _,h=>h.elim
 | _ :: _,[],h=>h.elim
theorem EntsR.length:∀ {es:List MapEntry} {l:List (κ×α)},EntsR ke El ag I es l->es.length=l.length
 | [],[],_=>rfl
 | _ :: _,_ :: _,⟨_,_,h⟩=>by simp[h.length]
 | [],_ :: _,h=>h.elim
 | _ :: _,[],h=>h.elim
variable {b:Nat} {kvs:List (κ×α)} {kt et:TypeId} {k:κ}
theorem OwnMap.opn {r:List HA} (h:Sym w0 M I0 I (OwnMap ke El ag b kvs :: r) w):∃ es clock,(EntsR ke El ag I es.toList kvs∧Stamped es.toList clock)∧Sym w0 M I0 I (pto b (.map es clock) :: r) w:=by obtain⟨K,hi,U,q,⟨h1,h2,hd',hl1,hl2,⟨es,clock,O,J,D⟩,hs'⟩,hk,hdj,hm⟩:=h;exact⟨es,clock,⟨J,D⟩,K,hi,U,q,⟨h1,h2,hd',hl1,hl2,O,hs'⟩,hk,hdj,hm⟩
theorem OwnMap.cls {r:List HA} {es:Array MapEntry} {clock:Nat} (D:EntsR ke El ag I es.toList kvs∧Stamped es.toList clock) (h:Sym w0 M I0 I (pto b (.map es clock) :: r) w):Sym w0 M I0 I (OwnMap ke El ag b kvs :: r) w:=
 h.weaken λ_ hk=>⟨es,clock,hk,D.1,D.2⟩
theorem OwnMap.set {r:List HA} {es es':Array MapEntry} {clock clock':Nat} (D:EntsR ke El ag I es'.toList kvs∧Stamped es'.toList clock') (h:Sym w0 M I0 I (pto b (.map es clock) :: r) w) :
   ∃ w',(setObj b (.map es' clock')).run P w=.ok () w'∧Sym w0 M I0 I (OwnMap ke El ag b kvs :: r) w':=by
 have hp:=h.pto;refine⟨_,MapKept.run_setObj_map _ hp,OwnMap.cls (clock:=clock') D (h.upd rfl rfl rfl rfl (by simp) (λq hq=>?_) ?_)⟩
 . show(w.heap.setIfInBounds b _)[q]? = _;rw[Array.getElem?_setIfInBounds,if_neg (by omega)]
 . show(w.heap.setIfInBounds b _)[b]? = _;have:=(Array.getElem?_eq_some_iff.1 hp).1;rw[Array.getElem?_setIfInBounds,if_pos rfl,if_pos this]
theorem Ops.mkMap (ke:κ->Value) (El:EP α) (ag:Bool) (K:Nat.blt d n.sz=true) (O:fresh E d=true)
  (J:∀ b,Ops P ops l n ((d,.map (some b)) :: E) (Sym w0 M I0 I (OwnMap ke El ag b [] :: m)) Q):Ops P ops (⟨some d,.makeMap T none,ty,pos,af,none⟩ :: l) n E (Sym w0 M I0 I m) Q:=
 Ops.valx (λv w'=>∃ b,v=.map (some b)∧Sym w0 M I0 I (OwnMap ke El ag b [] :: m) w') rfl rfl
  (λc w D h=>⟨.map (some w.heap.size),w.alloc (.map #[] 0),by simp[execOp,Instr.makeMap],_,rfl,OwnMap.cls ⟨by trivial,by simp[Stamped]⟩ (h.alloc _)⟩) K O
  (λv c w D ⟨b,U,h⟩=>by subst U; exact J b c w D h)
theorem YB {r:List HA} (K:bZ P kt ke) (Z:P.underlying T=some (.map kt et)) {zv:Value} {z:α} (hz:∀ w,(zeroValue et).run P w=.ok zv w) (W:∃ cs,El.rep I cs z∧xP ag cs zv)
  (h:Sym w0 M I0 I (OwnMap ke El ag b kvs :: r) w) (O:Bool) :
  ∃ v cs,El.rep I cs ((B9 k kvs).getD z)∧xP ag cs v∧(Instr.lookup T (.map (some b)) (ke k) O).run P w=.ok (if O then .tuple #[v,.bool (B9 k kvs).isSome] else v) w:=by
 obtain⟨es,clock,⟨hE,hSt⟩,hs⟩:=OwnMap.opn h;have hp:=hs.pto;have J:=K.find k es.toList (kvs.map (·.1)) w hE.keys
 cases hf:S7 k es.toList (kvs.map (·.1)) 0 with
 | none=>
  obtain⟨D,_,_⟩:=hE.miss k hf;obtain⟨cs,U,V⟩:=W;refine⟨zv,cs,by rw[D]; exact U,V,?_⟩;rw[D];simp only[Instr.lookup,Sem.run_bind,run_underlying Z,Result.andThen_ok,MapKept.run_getObj_map hp,Sem.run_pure,K.chk,J,hf,hz]
  cases O <;> rfl
 | some iv=>
  obtain⟨i,v⟩:=iv;obtain⟨i',_,_,⟨x,cs,D,U,V⟩,_,_⟩:=hE.hit k hf;refine⟨v,cs,by rw[D]; exact U,V,?_⟩;rw[D];simp only[Instr.lookup,Sem.run_bind,run_underlying Z,Result.andThen_ok,MapKept.run_getObj_map hp,Sem.run_pure,K.chk,J,hf];cases O <;> rfl
theorem Ops.lookM {zv:Value} {z:α} {C:α->Prop} (K:bZ P kt ke) (W:P.underlying T=some (.map kt et)) (hz:∀ w,(zeroValue et).run P w=.ok zv w) (U:∃ cs,El.rep I cs z∧xP ag cs zv)
  (hA:Del m (OwnMap ke El ag b kvs) m') (hx:ev E x=some (.map (some b))) (hy:ev E y=some (ke k)) (hd:lkP kvs k z C) (hb:Nat.blt d n.sz=true) (Z:fresh E d=true)
  (V:∀ v r cs,C r->El.rep I cs r->xP ag cs v->Ops P ops l n ((d,v) :: E) (Sym w0 M I0 I m) Q):Ops P ops (⟨some d,.lookup T x y false,ty,pos,af,none⟩ :: l) n E (Sym w0 M I0 I m) Q:=
 Ops.valx (λv w'=>(∃ cs,El.rep I cs ((B9 k kvs).getD z)∧xP ag cs v)∧Sym w0 M I0 I m w') rfl rfl
  (λc w D h=>by obtain⟨v,cs,J,O,g3⟩:=YB (k:=k) K W hz U (h.del hA) false;refine⟨v,w,?_,⟨cs,J,O⟩,h⟩;simp[execOp,D.eval hx,D.eval hy,g3]) hb Z
  (λv c w D ⟨⟨cs,J,O⟩,h⟩=>V v _ cs hd J O c w D h)
theorem Ops.lookM2 {zv:Value} {z:α} {C:α->Bool->Prop} (K:bZ P kt ke) (W:P.underlying T=some (.map kt et)) (hz:∀ w,(zeroValue et).run P w=.ok zv w) (U:∃ cs,El.rep I cs z∧xP ag cs zv)
  (hA:Del m (OwnMap ke El ag b kvs) m') (hx:ev E x=some (.map (some b))) (hy:ev E y=some (ke k)) (hd:AeP kvs k z C) (hb:Nat.blt d n.sz=true) (Z:fresh E d=true)
  (V:∀ v r t cs,C r t->El.rep I cs r->xP ag cs v->Ops P ops l n ((d,.tuple #[v,.bool t]) :: E) (Sym w0 M I0 I m) Q):Ops P ops (⟨some d,.lookup T x y true,ty,pos,af,none⟩ :: l) n E (Sym w0 M I0 I m) Q:=
 Ops.valx (λu w'=>(∃ v cs,u=.tuple #[v,.bool (B9 k kvs).isSome]∧El.rep I cs ((B9 k kvs).getD z)∧xP ag cs v)∧Sym w0 M I0 I m w') rfl rfl
  (λc w D h=>by obtain⟨v,cs,J,O,g3⟩:=YB (k:=k) K W hz U (h.del hA) true;refine⟨_,w,?_,⟨v,cs,rfl,J,O⟩,h⟩;simp[execOp,D.eval hx,D.eval hy,g3]) hb Z
  (λu c w D ⟨⟨v,cs,hu,J,O⟩,h⟩=>by subst hu; exact V v _ _ cs hd J O c w D h)
theorem Ops.updM {v:α} {u:Value} (K:bZ P kt ke) (hT:P.underlying T=some (.map kt et)) (hA:At m (OwnMap ke El ag b kvs) m' (OwnMap ke El ag b (DK k v kvs))) (hx:ev E x=some (.map (some b))) (hy:ev E y=some (ke k)) (hv:ev E z=some u)
    (hr:∃ cs,El.rep I cs v∧xP ag cs u) (k':Ops P ops l n E (Sym w0 M I0 I m') Q):Ops P ops (⟨none,.mapUpdate T x y z,ty,pos,af,none⟩ :: l) n E (Sym w0 M I0 I m) Q:=
  Ops.act rfl rfl (λc w ho hs=>by
    obtain⟨r,h2,h3⟩:=hA.del;obtain⟨es,clock,⟨hE,hSt⟩,hs1⟩:=OwnMap.opn (hs.del h2);have hp:=hs1.pto;have hfd:=K.find k es.toList (kvs.map (·.1)) w hE.keys
    cases hf:S7 k es.toList (kvs.map (·.1)) 0 with
    | none=>
      obtain⟨_,g2,_⟩:=hE.miss k hf;obtain⟨w',hr',hs'⟩:=OwnMap.set (P:=P) (es':=es.push { key:=ke k,val:=u,born:=clock }) (clock':=clock+1) (kvs:=DK k v kvs) (by rw[g2,Array.toList_push]; exact⟨EntsR.push (ke:=ke) (e:={ key:=ke k,val:=u,born:=clock }) rfl hr hE,hSt.push rfl⟩) hs1;refine⟨w',?_,hs'.undel h3⟩;simp only[execOp,ho.eval hx,ho.eval hy,ho.eval hv,Instr.mapUpdate,Sem.run_bind,run_underlying hT,Result.andThen_ok,MapKept.run_getObj_map hp,K.chk,hfd,hf,hr',Sem.run_pure]
    | some iv=>
      obtain⟨i,u'⟩:=iv;obtain⟨i',hi,⟨e0,q1,q2,q3⟩,_,g3,_⟩:=hE.hit k hf;have hi':i'=i:=by omega
      subst hi'
      have hkey:((es[i']?.map (·.key)).getD (ke k))=ke k:=by rw[<-Array.getElem?_toList,q1]; simp[q2]
      obtain⟨w',hr',hs'⟩:=OwnMap.set (P:=P) (es':=es.modify i' λe=>{ e with key:=ke k,val:=u }) (clock':=clock) (kvs:=DK k v kvs) (by rw[Array.toList_modify]; exact⟨g3 _ _ (λ_ _=>rfl) (λ_=>hr),hSt.modify λ_=>rfl⟩) hs1;refine⟨w',?_,hs'.undel h3⟩;simp only[execOp,ho.eval hx,ho.eval hy,ho.eval hv,Instr.mapUpdate,Sem.run_bind,run_underlying hT,Result.andThen_ok,MapKept.run_getObj_map hp,K.chk,hfd,hf,hkey,Instr.keyThatStays,K.same,if_true,hr',Sem.run_pure]) k'
theorem Ops.delM {O:Array TypeId} (K:bZ P kt ke) (hT:P.underlying T=some (.map kt et)) (h:O[0]? = some T) (hA:At m (OwnMap ke El ag b kvs) m' (OwnMap ke El ag b (F5 k kvs))) (hx:ev E x=some (.map (some b))) (hy:ev E y=some (ke k))
  (k':Ops P ops l n E (Sym w0 M I0 I m') Q):Ops P ops (⟨none,.call ⟨.builtin .delete,#[x,y],O⟩,ty,pos,af,none⟩ :: l) n E (Sym w0 M I0 I m) Q:=
 Ops.val0 rfl rfl (λc w ho hs=>by
  obtain⟨r,h2,h3⟩:=hA.del;obtain⟨es,clock,⟨W,U⟩,hs1⟩:=OwnMap.opn (hs.del h2);have hp:=hs1.pto;have V:=K.find k es.toList (kvs.map (·.1)) w W.keys;have e0:(#[x,y].map c.eval) = #[.map (some b),ke k]:=by simp[ho.eval hx,ho.eval hy]
  cases hf:S7 k es.toList (kvs.map (·.1)) 0 with
  | none=>
   obtain⟨_,_,g3⟩:=W.miss k hf;obtain⟨w',J,D⟩:=OwnMap.set (P:=P) (es':=es) (clock':=clock) (kvs:=F5 k kvs) (by rw[g3]; exact⟨W,U⟩) hs1;refine⟨.tuple #[],w',?_,D.undel h3⟩;simp[execOp,resolve,e0,invoke,builtin,Builtin.delete_,h,run_underlying hT,MapKept.run_getObj_map hp,K.chk,V,hf,J]
  | some iv=>
   obtain⟨i,u'⟩:=iv;obtain⟨Z,hi,_,_,_,g4⟩:=W.hit k hf;have hi':Z=i:=by omega
   subst hi'
   obtain⟨w',J,D⟩:=OwnMap.set (P:=P) (es':=es.eraseIdxIfInBounds Z) (clock':=clock) (kvs:=F5 k kvs) (by
    have e1:(es.eraseIdxIfInBounds Z).toList=es.toList.eraseIdx Z:=by
     unfold Array.eraseIdxIfInBounds;split
     . simp
     . rw[List.eraseIdx_of_length_le (by simp; omega)]
    rw[e1]; exact⟨g4,U.sub (List.eraseIdx_sublist _ _)⟩) hs1
   refine⟨.tuple #[],w',?_,D.undel h3⟩;simp[execOp,resolve,e0,invoke,builtin,Builtin.delete_,h,run_underlying hT,MapKept.run_getObj_map hp,K.chk,V,hf,J]) k'
theorem xQ {D:TypeDesc} (K:∀ k x,Instr.sameNow D (ke k) (ke x)=none) (k:κ):∀ (es:List MapEntry) (J:List κ),es.map (·.key)=J.map ke->Instr.findNow D (ke k) es 0=if es=[] then some none else none
 | [],[],_=>by simp[Instr.findNow]
 | e :: es,x :: J,h=>by
  simp only[List.map_cons,List.cons.injEq] at h;simp[Instr.findNow,h.1,K]
 | [],_ :: _,h=>by simp at h
 | _ :: _,[],h=>by simp at h
theorem cA (D:∀ (k x:κ) (w:World),(Op.equal kt (ke k) (ke x)).run P w=.ok (decide (k=x)) w) (k:κ):∀ (es:List MapEntry) (J:List κ) (j:Nat) (w:World),es.map (·.key)=J.map ke->(Instr.findAsking kt (ke k) es j).run P w=.ok (S7 k es J j) w
 | [],[],_,_,_=>rfl
 | e :: es,x :: J,j,w,h=>by
  simp only[List.map_cons,List.cons.injEq] at h;simp only[Instr.findAsking,Sem.run_bind,h.1,D,Result.andThen_ok];by_cases hk:k=x
  . simp[hk,S7]
  . simp only[hk,decide_false,Bool.false_eq_true,if_false,S7];exact cA D k es J (j+1) w h.2
 | [],_ :: _,_,_,h=>by simp at h
 | _ :: _,[],_,_,h=>by simp at h
theorem AlI {kd:TypeDesc} (hd:P.underlying kt=some kd) (hn:∀ k x,Instr.sameNow kd (ke k) (ke x)=none) (heq:∀ (k x:κ) (w:World),(Op.equal kt (ke k) (ke x)).run P w=.ok (decide (k=x)) w)
  (hchk:∀ e k w,(Instr.checkKey e 10000 kt (ke k)).run P w=.ok () w) (hsame:∀ k,Instr.sameBits 10000 (ke k) (ke k)=true):bZ P kt ke where
 chk:=hchk
 find k es ks w h:=by
  have h1:=xQ hn k es ks h;simp only[Instr.findKey,Sem.run_bind,run_underlying hd,Result.andThen_ok,h1];by_cases h0:es=[]
  . subst h0
    cases ks with
    | nil=>rfl
    | cons=>simp at h
  . rw[if_neg h0];exact cA heq k es ks 0 w h
 same:=hsame
def G8 (x:Int×Int):Value:=.agg #[.int .i64 x.1,.int .i64 x.2]
theorem AjH (d:Nat) {t e:TypeId} {i:TypeInfo} (W:P.underlying t=some (.array 2 e)) (hi:P.info? e=some i) (O:P.underlying e=some (.int .i64)) (K:P.cellsOf e=1) (h:∀ w,(isAgg e).run P w=.ok false w) (k x:Int×Int) (w:World) :
   (Op.equalIn (d+2) t (G8 k) (G8 x)).run P w=.ok (decide (k=x)) w:=by
 obtain⟨V,J⟩:=k;obtain⟨Z,U⟩:=x;unfold G8;rw[run_equalIn_array w (d+1) _ _ W hi];have D:=λa b=>run_equalIn_int (P:=P) w d e .i64 .i64 a b O;simp only[K,show List.range 2=[0,1] from rfl,Op.eqItems,Sem.run_bind,part,h,Result.andThen_ok];simp[D];by_cases e1:V=Z
 . by_cases e2:J=U <;> simp[e1,e2,h,D]
 . simp[e1,h]
theorem AcT {kt e:TypeId} {i:TypeInfo} (h:P.underlying kt=some (.array 2 e)) (hi:P.info? e=some i) (D:P.underlying e=some (.int .i64)) (O:P.cellsOf e=1) (J:∀ w,(isAgg e).run P w=.ok false w) (V:∀ w,(sizeOf e).run P w=.ok 1 w):bZ P kt G8:=by
 refine AlI h (λ_ _=>rfl) (λk x w=>AjH 9998 h hi D O J k x w) (λK k w=>?_) (λk=>?_)
 . show(Instr.checkKey K (9998+1+1) kt _).run P w=_;unfold Instr.checkKey G8;simp only[Sem.run_bind,run_underlying h,Result.andThen_ok]
   have U:∀ (a:Int) (w:World),(Instr.checkKey K (9998+1) e (.int .i64 a)).run P w=.ok () w:=λa w=>by unfold Instr.checkKey;simp only[Sem.run_bind,run_underlying D,Result.andThen_ok];rfl
   simp[Std.Legacy.Range.forIn_eq_forIn_range',Std.Legacy.Range.size,List.range',V,part,J,U]
 . simp[G8,Instr.sameBits]
def xR (rest:List (κ×α)) (A:Prop) (B:κ×α->List (κ×α)->Prop):Prop:=(rest=[]->A)∧∀ (i:Nat) (p:κ×α),rest[i]? = some p->B p (rest.eraseIdx i)
def AgK (cur:Option (Value×Value)) (es:List MapEntry) (clock h:Nat) (seen:Array Nat):Prop:=match cur with
 | none=>True
 | some kv=>clock=h∧∃ e∈es,seen.back? = some e.born∧e.key=kv.1∧e.val=kv.2
def OwnIt (ke:κ->Value) (El:EP α) (ag:Bool) (b r:Nat) (kvs rest:List (κ×α)) (cur:Option (Value×Value)):HA where
 holds I h:=∃ es clock since seen c0,h b=some (.map es clock)∧EntsR ke El ag I es.toList kvs∧Stamped es.toList clock∧h r=some (.mapIter (some b) since seen c0)∧(∀ e∈es.toList,e.born<since)∧since<=c0∧since<=clock∧EntsR ke El ag I (leftOf es seen).toList rest∧AgK cur es.toList clock c0 seen
 mono:=λhI hh ⟨es,clock,since,seen,c0,h1,h2,h3,h4,h5,h6,h7,h8,h9⟩=>⟨es,clock,since,seen,c0,hh _ _ h1,h2.mono hI,h3,hh _ _ h4,h5,h6,h7,h8.mono hI,h9⟩
theorem EntsR.get:∀ {es:List MapEntry} {l:List (κ×α)} {i:Nat} {e:MapEntry},EntsR ke El ag I es l->es[i]? = some e->∃ p,l[i]? = some p∧e.key=ke p.1∧∃ cs,El.rep I cs p.2∧xP ag cs e.val
 | _ :: _,p :: _,0,_,⟨h1,h2,_⟩,he=>by cases he; exact⟨p,rfl,h1,h2⟩
 | _ :: _,_ :: _,i+1,_,⟨_,_,h⟩,he=>by
  obtain⟨p,g⟩:=EntsR.get (i:=i) h (by simpa using he);exact⟨p,by simpa using g.1,g.2⟩
 | [],[],_,_,_,he=>by simp at he
 | [],_ :: _,_,_,h,_=>h.elim
 | _ :: _,[],_,_,h,_=>h.elim
theorem EntsR.erase:∀ {es:List MapEntry} {l:List (κ×α)} (i:Nat),EntsR ke El ag I es l->EntsR ke El ag I (es.eraseIdx i) (l.eraseIdx i)
 | [],[],_,_=>trivial
 | _ :: _,_ :: _,0,⟨_,_,h⟩=>h
 | _ :: _,_ :: _,i+1,⟨J,D,h⟩=>⟨J,D,EntsR.erase i h⟩
 | [],_ :: _,_,h=>h.elim
 | _ :: _,[],_,h=>h.elim
theorem fC {e:MapEntry}:∀ {l:List MapEntry} {i:Nat},(l.map (·.born)).Nodup->l[i]? = some e->l.filter (λx=>!(x.born==e.born))=l.eraseIdx i
 | [],_,_,h=>by simp at h
 | x :: r,0,hn,h=>by
  cases h;simp only[List.map_cons,List.nodup_cons] at hn;simp only[List.filter_cons,beq_self_eq_true,Bool.not_true,Bool.false_eq_true,if_false,List.eraseIdx_cons_zero];refine List.filter_eq_self.2 λy U=>?_;have:y.born≠e.born:=λD=>hn.1 (D▸List.mem_map_of_mem U);simpa using this
 | x :: r,i+1,hn,h=>by
  simp only[List.map_cons,List.nodup_cons] at hn;have K:r[i]? = some e:=by simpa using h
  have J:x.born≠e.born:=λD=>hn.1 (D▸List.mem_map_of_mem (List.mem_of_getElem? K));have O:(x.born==e.born)=false:=by simpa using J
  simp only[List.filter_cons,O,Bool.not_false,if_true,List.eraseIdx_cons_succ];rw[fC hn.2 K]
theorem uJ {es:Array MapEntry} {seen:Array Nat} {e:MapEntry} {i:Nat} {clock:Nat} (D:Stamped es.toList clock) (hi:(leftOf es seen).toList[i]? = some e):(leftOf es (seen.push e.born)).toList=(leftOf es seen).toList.eraseIdx i:=by
 have h:(leftOf es seen).toList.Sublist es.toList:=by unfold leftOf; rw[Array.toList_filter]; exact List.filter_sublist
 have J:((leftOf es seen).toList.map (·.born)).Nodup:=(h.map _).nodup D.1;rw[<-fC J hi];unfold leftOf;rw[Array.toList_filter,Array.toList_filter,List.filter_filter];congr 1;funext x;by_cases h1:x.born=e.born
 . simp[h1]
 . have:(x.born==e.born)=false:=by simpa using h1
   simp[this,h1]
theorem Sym.join2 {A B C:HA} {l:List HA} (h:Sym w0 M I0 I (A :: B :: l) w) (W:∀ D J,D.disj J->A.holds I D->B.holds I J->C.holds I (D.union J)):Sym w0 M I0 I (C :: l) w:=by
 obtain⟨Z,hi,V,k,⟨D,k1,hd,hl1,hl2,ha,J,h3,hd',hl3,hl4,hB,hs⟩,hk,hdj,hm⟩:=h;have O:D.disj J:=hd.mono (IH.le.refl _) hl3;have K:D.disj h3:=hd.mono (IH.le.refl _) hl4;refine⟨Z,hi,V,k,⟨D.union J,h3,?_,IH.union_le hl1 (hl3.trans hl2),hl4.trans hl2,W D J O ha hB,hs⟩,hk,hdj,hm⟩;intro b;rcases K b with h | h
 . rcases hd' b with U | U
   . left; simp[IH.union,h,U]
   . exact .inr U
 . exact .inr h
theorem Sym.split2 {A B C:HA} {l:List HA} (h:Sym w0 M I0 I (C :: l) w) (W:∀ q,C.holds I q->∃ J D,J.disj D∧J.le q∧D.le q∧A.holds I J∧B.holds I D):Sym w0 M I0 I (A :: B :: l) w:=by
 obtain⟨hb,hi,hn,k,⟨q,k1,hd,hl1,hl2,ha,hs⟩,hk,hdj,hm⟩:=h;obtain⟨J,D,K,V,O,hA,Z⟩:=W q ha;refine⟨hb,hi,hn,k,⟨J,D.union k1,?_,V.trans hl1,IH.union_le (O.trans hl1) hl2,hA,D,k1,hd.mono O (IH.le.refl _),IH.le_union_left _ _,IH.le_union_right (hd.mono O (IH.le.refl _)),Z,hs⟩,hk,hdj,hm⟩;intro b;rcases K b with h | h
 . exact .inl h
 . rcases(hd.mono V (IH.le.refl k1)) b with U | U
   . exact .inl U
   . right; simp[IH.union,h,U]
variable {r:Nat} {rest:List (κ×α)}
def pto2 (b:Nat) (o:Obj) (r:Nat) (o':Obj):HA where
 holds _ h:=h b=some o∧h r=some o'
 mono:=λ_ hh h=>⟨hh _ _ h.1,hh _ _ h.2⟩
theorem Sym.pto2 {b r:Nat} {o o':Obj} {l:List HA} (D:r≠b) (h:Sym w0 M I0 I (Fw.pto2 b o r o' :: l) w):Sym w0 M I0 I (Fw.pto r o' :: Fw.pto b o :: l) w:=by
 refine h.split2 λq K=>⟨FX r o',FX b o,λc=>?_,λc p e=>?_,λc p e=>?_,by simp[Fw.pto,FX],by simp[Fw.pto,FX]⟩
 . by_cases e:c=r
   . right; subst e; simp[FX,D]
   . left; simp[FX,e]
 . simp only[FX] at e; split at e
   . rename_i J; subst J; cases e; exact K.2
   . cases e
 . simp only[FX] at e; split at e
   . rename_i J; subst J; cases e; exact K.1
   . cases e
theorem OwnIt.opn {cur:Option (Value×Value)} {l:List HA} (h:Sym w0 M I0 I (OwnIt ke El ag b r kvs rest cur :: l) w):∃ es clock D seen J,EntsR ke El ag I es.toList kvs∧Stamped es.toList clock∧(∀ e∈es.toList,e.born<D)∧D<=J∧D<=clock∧EntsR ke El ag I (leftOf es seen).toList rest∧AgK cur es.toList clock J seen ∧
  Sym w0 M I0 I (pto r (.mapIter (some b) D seen J) :: pto b (.map es clock) :: l) w:=by
 obtain⟨hb,hi,hn,q,⟨q1,q2,hd',hl1,hl2,⟨es,clock,D,seen,J,U,W,g3,O,g5,Z,g7,V,g9⟩,hs'⟩,hkk,hdj,hm⟩:=h;have K:r≠b:=λe=>by subst e; rw[U] at O; cases O
 have h2:Sym w0 M I0 I (Fw.pto2 b (.map es clock) r (.mapIter (some b) D seen J) :: l) w:=⟨hb,hi,hn,q,⟨q1,q2,hd',hl1,hl2,⟨U,O⟩,hs'⟩,hkk,hdj,hm⟩;exact⟨es,clock,D,seen,J,W,g3,g5,Z,g7,V,g9,h2.pto2 K⟩
theorem OwnIt.cls {l:List HA} {es:Array MapEntry} {clock D J:Nat} {seen:Array Nat} (h2:EntsR ke El ag I es.toList kvs) (V:Stamped es.toList clock) (h5:∀ e∈es.toList,e.born<D) (O:D<=J) (h7:D<=clock) (U:EntsR ke El ag I (leftOf es seen).toList rest) (W:AgK cur es.toList clock J seen)
  (h:Sym w0 M I0 I (pto r (.mapIter (some b) D seen J) :: pto b (.map es clock) :: l) w):Sym w0 M I0 I (OwnIt ke El ag b r kvs rest cur :: l) w:=
 h.join2 λK Z hd ha hb=>⟨es,clock,D,seen,J,IH.le_union_right hd _ _ hb,h2,V,IH.le_union_left K Z _ _ ha,h5,O,h7,U,W⟩
theorem Ops.rangeM (K:P.underlying T=some (.map kt et)) (W:Del m (OwnMap ke El ag b kvs) m') (Z:ev E x=some (.map (some b))) (U:Nat.blt d n.sz=true) (O:fresh E d=true)
  (J:∀ r,Ops P ops l n ((d,.pointer (some ⟨r,0,none⟩)) :: E) (Sym w0 M I0 I (OwnIt ke El ag b r kvs kvs none :: m')) Q):Ops P ops (⟨some d,.range T x,ty,pos,af,none⟩ :: l) n E (Sym w0 M I0 I m) Q:=
 Ops.valx (λv w'=>∃ r,v=.pointer (some ⟨r,0,none⟩)∧Sym w0 M I0 I (OwnIt ke El ag b r kvs kvs none :: m') w') rfl rfl
  (λc w D h=>by
   obtain⟨es,clock,⟨hE,hSt⟩,hs1⟩:=OwnMap.opn (h.del W);have hp:=hs1.pto;refine⟨.pointer (some ⟨w.heap.size,0,none⟩),w.alloc (.mapIter (some b) clock #[] clock),?_,_,rfl,OwnIt.cls (seen:=#[]) hE hSt hSt.2 (Nat.le_refl _) (Nat.le_refl _) ?_ trivial (hs1.alloc _)⟩
   . simp only[execOp,D.eval Z,Instr.range,Sem.run_bind,run_underlying K,Result.andThen_ok,MapKept.run_getObj_map hp,Sem.run_pure];rfl
   . have:leftOf es #[]=es:=by unfold leftOf; rw[Array.filter_eq_self]; simp
     rw[this]; exact hE) U O
  (λv c w D ⟨r,V,h⟩=>by subst V; exact J r c w D h)
theorem Ops.nextM {A:Prop} {B:κ×α->List (κ×α)->Prop} (hA:Del m (OwnIt ke El ag b r kvs rest cur) m') (hx:ev E x=some (.pointer (some ⟨r,0,none⟩))) (hd:xR rest A B) (hb:Nat.blt d n.sz=true) (hf:fresh E d=true)
   (k1:A->rest=[]->Ops P ops l n ((d,.tuple #[.bool false]) :: E) (Sym w0 M I0 I m) Q)
   (k2:∀ (p:κ×α) (O:List (κ×α)) v cs,B p O->El.rep I cs p.2->xP ag cs v->rest≠[]->Ops P ops l n ((d,.tuple #[.bool true,ke p.1,v]) :: E) (Sym w0 M I0 I (OwnIt ke El ag b r kvs O (some (ke p.1,v)) :: m')) Q) :
   Ops P ops (⟨some d,.next x false,ty,pos,af,none⟩ :: l) n E (Sym w0 M I0 I m) Q:=by
 intro c w ho hs;obtain⟨es,clock,h,seen,c0,hE,hSt,V,hsc,Z,hL,hcur,U⟩:=OwnIt.opn (hs.del hA);have hr:=U.pto;have hbm:=(U.del (.s .z)).pto;refine wpListIn_plain rfl λK hK=>?_;rcases run_next_at (P:=P) w ty r b h c0 seen es clock hr hbm V hsc with⟨h0,J⟩ | ⟨e,he,w1,hw1,J⟩
 . have W:rest=[]:=by
     have:=hL.length
     cases rest with
     | nil=>rfl
     | cons=>simp[h0] at this
   have D:(execOp c.eval ⟨some d,.next x false,ty,pos,af,none⟩).run P w=.ok (.value (.tuple #[.bool false])) w:=by simp[execOp,ho.eval hx,J]
   refine eV D (by simp) ?_;simp only[Oper.uponIn];exact hK _ _ (k1 (hd.1 W) W _ _ (ho.put hb hf _) hs)
 . obtain⟨i,hi⟩:=List.getElem?_of_mem he;obtain⟨p,hp,hkey,cs,hrep,hof⟩:=hL.get hi;have D:(execOp c.eval ⟨some d,.next x false,ty,pos,af,none⟩).run P w=.ok (.value (.tuple #[.bool true,e.key,e.val])) (ChangeMaps.setBlock w1 r (.mapIter (some b) h (seen.push e.born) clock)):=by simp[execOp,ho.eval hx,J]
   refine eV D (by simp) ?_;simp only[Oper.uponIn]
   have hs2:Sym w0 M I0 I (pto r (.mapIter (some b) h seen c0) :: pto b (.map es clock) :: m') w1:=by
     rcases hw1 with rfl | rfl
     . exact U
     . exact U.drew _ (Nat.le_succ _)
   have hr1:=hs2.pto
   have hs3:=hs2.upd (o':=.mapIter (some b) h (seen.push e.born) clock) (w':=ChangeMaps.setBlock w1 r (.mapIter (some b) h (seen.push e.born) clock)) rfl rfl rfl rfl (by simp[ChangeMaps.setBlock])
     (λq hq=>by show(w1.heap.setIfInBounds r _)[q]? = _; rw[Array.getElem?_setIfInBounds,if_neg (by omega)])
     (by show(w1.heap.setIfInBounds r _)[r]? = _; have:=(Array.getElem?_eq_some_iff.1 hr1).1; rw[Array.getElem?_setIfInBounds,if_pos rfl,if_pos this])
   have hne:rest≠[]:=λe'=>by rw[e'] at hp; simp at hp
   rw[hkey];refine hK _ _ (k2 p (rest.eraseIdx i) e.val cs (hd.2 i p hp) hrep hof hne _ _ (ho.put hb hf _) (OwnIt.cls hE hSt V Z Z ?_ ⟨rfl,e,?_,by simp,hkey,rfl⟩ hs3))
   . rw[uJ hSt hi];exact hL.erase i
   . have:e∈leftOf es seen:=by simpa using he
     unfold leftOf at this;have:=(Array.mem_filter.1 this).1;simpa using this
theorem Ops.entryM {kv vv:Value} (hA:Del m (OwnIt ke El ag b r kvs rest (some (kv,vv))) m') (hx:ev E x=some (.pointer (some ⟨r,0,none⟩))) (hb:Nat.blt d n.sz=true) (hf:fresh E d=true)
  (k':Ops P ops l n ((d,.tuple #[kv,vv]) :: E) (Sym w0 M I0 I (OwnIt ke El ag b r kvs rest none :: m')) Q):Ops P ops (⟨some d,.entry x,ty,pos,af,none⟩ :: l) n E (Sym w0 M I0 I m) Q:=by
 intro c w ho hs;obtain⟨es,clock,J,seen,c0,hE,hSt,V,hsc,W,hL,⟨h1,e,h2,h3,h4,h5⟩,hs1⟩:=OwnIt.opn (hs.del hA);have hr:=hs1.pto;have hbm:=(hs1.del (.s .z)).pto;simp only at h4 h5;refine wpListIn_plain rfl λK hK=>?_
 obtain⟨U,D⟩:∃ U:Array Nat,seen=U.push e.born:=by
  refine⟨seen.pop,?_⟩;have hne:seen ≠ #[]:=λh=>by rw[h] at h3; simp at h3
  have:=Array.back?_eq_some_iff.1 h3;obtain⟨ys,hys⟩:=this;rw[hys]; simp
 subst D h1;have Z:=run_entry_at (P:=P) w r b J U es clock e hr hbm h2 hSt.1;have O:(execOp c.eval ⟨some d,.entry x,ty,pos,af,none⟩).run P w=.ok (.value (.tuple #[kv,vv])) w:=by simp[execOp,ho.eval hx,Z,h4,h5]
 refine eV O (by simp) ?_;simp only[Oper.uponIn];exact hK _ _ (k' _ _ (ho.put hb hf _) (OwnIt.cls hE hSt V hsc W hL trivial hs1))
theorem Ops.itEnd (O:Del m (OwnIt ke El ag b r kvs rest cur) m') (D:Ops P ops l n E (Sym w0 M I0 I (OwnMap ke El ag b kvs :: m')) Q):Ops P ops l n E (Sym w0 M I0 I m) Q:=
 Ops.pre (λ_ h=>(h.del O).weaken (B:=OwnMap ke El ag b kvs) λ_ ⟨es,clock,_,_,_,U,K,J,_⟩=>⟨es,clock,U,K,J⟩) D
theorem Cod.itEnd {c:Code} (O:Del m (OwnIt ke El ag b r kvs rest cur) m') (D:Cod P c n E (Sym w0 M I0 I (OwnMap ke El ag b kvs :: m')) Q):Cod P c n E (Sym w0 M I0 I m) Q:=
 Cod.pre (λ_ h=>(h.del O).weaken (B:=OwnMap ke El ag b kvs) λ_ ⟨es,clock,_,_,_,U,K,J,_⟩=>⟨es,clock,U,K,J⟩) D
theorem Ops.lenM {D:Array TypeId} (O:P.underlying T=some (.map kt et)) (h:D[0]? = some T) (hA:Del m (OwnMap ke El ag b kvs) m') (hx:ev E x=some (.map (some b))) (W:Nat.blt d n.sz=true) (U:fresh E d=true)
  (J:Ops P ops l n ((d,.int .i64 (kvs.length:Int)) :: E) (Sym w0 M I0 I m) Q):Ops P ops (⟨some d,.call ⟨.builtin .len,#[x],D⟩,ty,pos,af,none⟩ :: l) n E (Sym w0 M I0 I m) Q:=
 Ops.val rfl rfl (λc w V K=>by
  obtain⟨es,clock,⟨hE,hSt⟩,hs1⟩:=OwnMap.opn (K.del hA);have Z:es.size=kvs.length:=by have:=hE.length; simpa using this
  simp[execOp,resolve,invoke,builtin,Builtin.len_,V.eval hx,h,run_underlying O,MapKept.run_getObj_map hs1.pto,goInt,Z]) W U J
end
theorem RepSl.ofNone {α:Type} {El:EP α} {cap:Nat} {xs:List α} {a:Option Addr} (h:RepSl El I a cap xs) (D:a.isNone=true):xs=[]:=by
 cases xs with
 | nil=>rfl
 | cons x r=>obtain⟨b,off,cs,J,_⟩:=h.2 0 x rfl; subst J; cases D
def Ab6 {α:Type} (xs:List α) (A B:Prop):Prop:=(xs=[]->A)∧B
theorem qS (w:World) (d:Nat) (t e:TypeId) (a:Option Addr) (l c:Nat) (h:P.underlying t=some (.slice e)):(Op.equalIn (d+1) t (.slice a l c) (.slice none 0 0)).run P w=.ok a.isNone w:=by cases a <;> simp[Op.equalIn,run_underlying h]
theorem uK (w:World) (t e:TypeId) (a:Option Addr) (l c:Nat) (h:P.underlying t=some (.slice e)):(Op.equal t (.slice a l c) (.slice none 0 0)).run P w=.ok a.isNone w:=qS w 9999 t e a l c h
theorem Ops.eqNilS {S:World->Prop} {V:TypeId} {a:Option Addr} {k cap:Nat} (K:P.underlying T=some (.slice e)) (W:ev E x=some (.slice a k cap)) (U:ev E y=some (.slice none 0 0)) (J:Nat.blt d n.sz=true) (O:fresh E d=true)
  (D:Ops P ops l n ((d,.bool a.isNone) :: E) S Q):Ops P ops (⟨some d,.binOp .eql T x y V,ty,pos,af,none⟩ :: l) n E S Q:=
 Ops.val rfl rfl (λc w h _=>by
  have Z:(eqGuard .eql T x y (.slice a k cap) (.slice none 0 0)).run P w=.ok () w:=by unfold eqGuard; rfl
  simp only[execOp,h.eval W,h.eval U,Sem.run_bind,Z,Result.andThen_ok,binOp];simp[uK w T e a k cap K]) J O D
end Go.Fw
