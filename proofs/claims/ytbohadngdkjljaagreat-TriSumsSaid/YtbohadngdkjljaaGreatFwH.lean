/- The engine, part H: calls that are handed memory of the caller's own; calls of function values. -/
import Derived.Test.YtbohadngdkjljaaGreatFwG
namespace Go.Fw
open Go Go.RowKit
variable {w0 w:World} {M:Nat→Prop} {I0 I:IH} {m m':List HA}
variable {P:Program} {n:FrK} {E:DH} {S:World→Prop} {Q:Exit→Act→World→Prop} {ops:Array Oper} {l:List Oper}
variable {d ty:Nat} {pos:String} {af:Array Edge} {T e:TypeId} {x y:Operand}
inductive Outs:List HA→List HA→List HA→Prop
  | n {m:List HA}:Outs m [] m
  | c {m m' r mr:List HA} {A:HA} (h:Del m A m') (k:Outs m' r mr):Outs m (A :: r) mr
theorem Outs.perm {mf mr:List HA} (h:Outs m mf mr):m.Perm (mf++mr):=by
  induction h with
  | n=>exact .refl _
  | c h _ ih=>exact h.perm.trans (ih.cons _)
def Enters (P:Program) (n:FrK) (E:DH) (S:World→Prop) (x:Callee) (args:List Operand) (g:FuncId) (vs:List Value):Prop:=
  ∀ (dst:Option Nat) (tys:Array TypeId) (ty:TypeId) (pos:String) (af:Array Edge) (c:Act) (w:World),Ok n E c→S w→(execOp c.eval ⟨dst,.call ⟨x,args.toArray,tys⟩,ty,pos,af,none⟩).run P w=.ok (.enter g vs.toArray) w
theorem Enters.f {g:FuncId} {args:List Operand} {vs:List Value} (hg:∀ as w,(callFunc g as).run P w=.ok (.enter g as) w) (ha:qF E args=some vs):Enters P n E S (.value (.func g)) args g vs:=by
  intro dst tys ty pos af c w ho _
  have e:args.toArray.map c.eval=vs.toArray:=by simp [UA ho ha]
  simp only [execOp,resolve,e,Act.eval,Deferred.ofValue,Sem.run_bind,Sem.run_pure,Result.andThen_ok,invoke]
  simp [hg]
theorem Enters.c {g:FuncId} {args:List Operand} {us:List Value} {first cap:Array Value} (hg:∀ as w,(callFunc g as).run P w=.ok (.enter g as) w) (hx:ev E x=some (.func (.func g) first cap)) (ha:qF E args=some us) :
    Enters P n E S (.value x) args g (first.toList++us++cap.toList):=by
  intro dst tys ty pos af c w ho _
  have e:args.toArray.map c.eval=us.toArray:=by simp [UA ho ha]
  simp only [execOp,resolve,e,ho.eval hx,Deferred.ofValue,Sem.run_bind,Sem.run_pure,Result.andThen_ok,invoke,hg]
  simp
theorem Ops.callS {x:Callee} {g:FuncId} {args:List Operand} {vs:List Value} {tys:Array TypeId} {mf mr:List HA} {φ:IH→Value→List HA→Prop} (he:Enters P n E (Sym w0 M I0 I m) x args g vs)
    (ho:Outs m mf mr) (hf:Fun P g vs.toArray I mf φ) (hb:Nat.blt d n.sz=true) (hfr:fresh E d=true)
    (k:∀ v I' l',I.le I'→φ I' v l'→Ops P ops l n ((d,v) :: E) (Sym w0 M I0 I' (l'++mr)) Q) :
    Ops P ops (⟨some d,.call ⟨x,args.toArray,tys⟩,ty,pos,af,none⟩ :: l) n E (Sym w0 M I0 I m) Q:=by
  intro c w hok hs
  refine wpListIn_plain rfl fun K hK=>?_
  refine aM (he _ _ _ _ _ c w hok hs) (by simp) ?_
  simp only [Oper.uponIn]
  refine ⟨fun h=>(by cases h),dJ (hf.use (hs.perm ho.perm) fun v I' l' w' hle hφ hs'=>hK _ _ (k v I' l' hle hφ _ _ (hok.put hb hfr v) hs'))⟩
theorem Ops.mkFn {fn:Fn} {first cap:List Operand} {vs us:List Value} (h1:qF E first=some vs) (h2:qF E cap=some us) (hb:Nat.blt d n.sz=true) (hf:fresh E d=true)
    (k:Ops P ops l n ((d,.func fn vs.toArray us.toArray) :: E) S Q):Ops P ops (⟨some d,.makeFunc fn first.toArray cap.toArray,ty,pos,af,none⟩ :: l) n E S Q:=
  Ops.makeFunc (fun a ha=>by simp [UA ha h1]) (fun a ha=>by simp [UA ha h2]) hb hf k
def UB (J:IH):List HA→Prop
  | []=>True
  | A :: r=>(∃ k:IH,A.holds J k∧k.le J)∧UB J r
theorem iF {J h:IH} (hh:h.le J) (hI:I.le J):∀ {mf mr:List HA} {k:IH},MQ (mf++mr) I k→k.le h→UB J mf
  | [],_,_,_,_=>trivial
  | A :: _,mr,_,⟨h1,_,_,hl1,hl2,ha,hs⟩,hk=>⟨⟨h1,A.mono hI (IH.le.refl _) ha,(hl1.trans hk).trans hh⟩,iF hh hI (mr:=mr) hs (hl2.trans hk)⟩
theorem AbI {α:Type} {El:EL α} {T:TypeId} {a:Option Addr} {cap:Nat} {xs:List α} {J:IH} (h:∃ k:IH,(OwnSl El T a cap xs).holds J k∧k.le J):RepSl El J a cap xs:=by
  obtain ⟨k,ha,hk⟩:=h
  rcases ha with ⟨h1,h2,h3⟩ | ⟨b,c,h1,h2,h3,h4,h5⟩
  · subst h2; exact .nil _ _ _
  · refine ⟨h3,fun i x hx=>?_⟩
    obtain ⟨cs,g1,g2⟩:=h5 i x hx
    exact ⟨b,0,cs,h1,⟨c,T,(0,0),hk _ _ h2,fun j v hj=>by rw [Nat.zero_add]; exact g2 j v hj⟩,g1⟩
theorem Sym.grown (h:Sym w0 M I0 I m w) {w':World} (hb:Ae1 w (fun _=>False) w'):Sym w0 M I0 I m w':=by
  obtain ⟨hB,hi,hn,k,hs,hk,hd,hm⟩:=h
  have hp':∀ {J:IH},J.le (hp w)→J.le (hp w'):=fun hJ b o e=>by
    have e':=hJ b o e
    have:=hb.block b (RW e') (fun x=>x)
    show w'.heap[b]? = some o
    rw [this]; exact e'
  exact ⟨⟨hb.os.trans hB.os,hb.tape.trans hB.tape,hb.output.trans hB.output,Nat.le_trans hB.drawn hb.drawn,Nat.le_trans hB.size hb.size,fun b h1 h2=>(hb.block b (Nat.lt_of_lt_of_le h1 hB.size) (fun x=>x)).trans (hB.block b h1 h2)⟩,hp' hi,hn,k,hs,hp' hk,hd,hm⟩
theorem AbJ {g:FuncId} {vs:List Value} {mf mr:List HA} {ψ:IH→Value→Prop} (hf:∀ J:IH,I.le J→UB J mf→BW P g vs J ψ) (ho:Outs m mf mr) (hs:Sym w0 M I0 I m w)
    {R:Ending→World→Prop} (hR:∀ v J w',ψ J v→Sym w0 M I0 I m w'→R (.returned v) w'):Calls P g vs.toArray w R:=by
  obtain ⟨hB,hi,hn,k,hsep,hk,hd,hm⟩:=hs.perm ho.perm
  have hle:=IH.le_union_left I k
  have hJ:(I.union k).le (hp w):=IH.union_le hi hk
  refine (hf (I.union k) hle (iF (IH.le_union_right hd) hle hsep (IH.le.refl _)) w (fun _=>none) hJ trivial (fun _ _ x=>nomatch x) (fun _=>.inr rfl)).mono fun e w' ha=>?_
  obtain ⟨v,J',l',rfl,_,⟨_,hψ⟩,hs'⟩:=ha
  exact hR v J' w' hψ (hs.grown ⟨hs'.base.os,hs'.base.tape,hs'.base.output,hs'.base.drawn,hs'.base.size,fun b h1 _=>hs'.base.block b h1 (by simp)⟩)
theorem Ops.callB {x:Callee} {g:FuncId} {args:List Operand} {vs:List Value} {tys:Array TypeId} {mf mr:List HA} {ψ:IH→Value→Prop} (he:Enters P n E (Sym w0 M I0 I m) x args g vs)
    (ho:Outs m mf mr) (hf:∀ J:IH,I.le J→UB J mf→BW P g vs J ψ) (hb:Nat.blt d n.sz=true) (hfr:fresh E d=true)
    (k:∀ v J,ψ J v→Ops P ops l n ((d,v) :: E) (Sym w0 M I0 I m) Q) :
    Ops P ops (⟨some d,.call ⟨x,args.toArray,tys⟩,ty,pos,af,none⟩ :: l) n E (Sym w0 M I0 I m) Q:=by
  intro c w hok hs
  refine wpListIn_plain rfl fun K hK=>?_
  refine aM (he _ _ _ _ _ c w hok hs) (by simp) ?_
  simp only [Oper.uponIn]
  refine ⟨fun h=>(by cases h),dJ (AbJ hf ho hs fun v J w' hψ hs'=>hK _ _ (k v J hψ _ _ (hok.put hb hfr v) hs'))⟩
theorem Enters.i {g:FuncId} {args:List Operand} {us:List Value} {recv:Operand} {name:String} {t:TypeId} {v r:Value} (hg:∀ as w,(callFunc g as).run P w=.ok (.enter g as) w)
    (hm:∀ w,(method (P.types.size+Made.depth) t v name).run P w=.ok (g,r) w) (hx:ev E recv=some (.iface t v)) (ha:qF E args=some us) :
    Enters P n E S (.invoke recv name) args g (r :: us):=by
  intro dst tys ty pos af c w ho _
  have e:args.toArray.map c.eval=us.toArray:=by simp [UA ho ha]
  simp only [execOp,resolve,e,ho.eval hx,Sem.run_bind,Sem.run_pure,Result.andThen_ok,invoke]
  simp [callMethod,hm,hg]
theorem Enters.iv {g:FuncId} {args:List Operand} {us:List Value} {recv:Operand} {name:String} {t:TypeId} {v r:Value} (hg:∀ as w,(callFunc g as).run P w=.ok (.enter g as) w)
    (hm:∀ w,S w→(method (P.types.size+Made.depth) t v name).run P w=.ok (g,r) w) (hx:ev E recv=some (.iface t v)) (ha:qF E args=some us) :
    Enters P n E S (.invoke recv name) args g (r :: us):=by
  intro dst tys ty pos af c w ho hs
  have e:args.toArray.map c.eval=us.toArray:=by simp [UA ho ha]
  simp only [execOp,resolve,e,ho.eval hx,Sem.run_bind,Sem.run_pure,Result.andThen_ok,invoke]
  simp [callMethod,hm w hs,hg]
end Go.Fw
