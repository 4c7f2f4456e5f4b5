/- The engine. -/
import Derived.Test.YtbohadngdkjljaaGreatFwG
namespace Go.Fw
open Go Go.RowKit
variable {w0 w:World} {M:Nat→Prop} {I0 I:IH} {m m':List HA}
variable {P:Program} {n:FrK} {E:D7} {S:World→Prop} {Q:Exit→Act→World→Prop} {ops:Array Oper} {l:List Oper}
variable {d ty:Nat} {pos:String} {af:Array Edge} {T e:TypeId} {x y:Operand}
inductive Outs:List HA→List HA→List HA→Prop
 | n {m:List HA}:Outs m [] m
 | c {m m' r mr:List HA} {A:HA} (h:Del m A m') (k:Outs m' r mr):Outs m (A :: r) mr
theorem Outs.perm {mf mr:List HA} (h:Outs m mf mr):m.Perm (mf++mr):=by
 induction h with
 | n=>exact .refl _
 | c h _ D=>exact h.perm.trans (D.cons _)
def Enters (P:Program) (n:FrK) (E:D7) (S:World→Prop) (x:Callee) (args:List Operand) (g:FuncId) (vs:List Value):Prop:=
 ∀ (D:Option Nat) (h:Array TypeId) (ty:TypeId) (pos:String) (af:Array Edge) (c:Act) (w:World),Ok n E c→S w→(execOp c.eval ⟨D,.call ⟨x,args.toArray,h⟩,ty,pos,af,none⟩).run P w=.ok (.enter g vs.toArray) w
theorem Enters.f {g:FuncId} {args:List Operand} {vs:List Value} (O:∀ as w,(callFunc g as).run P w=.ok (.enter g as) w) (D:qE E args=some vs):Enters P n E S (.value (.func g)) args g vs:=by
 intro J G ty pos af c w h _
 have e:args.toArray.map c.eval=vs.toArray:=by simp [WO h D]
 simp only [execOp,resolve,e,Act.eval,Deferred.ofValue,Sem.run_bind,Sem.run_pure,Result.andThen_ok,invoke]
 simp [O]
theorem Enters.c {g:FuncId} {args:List Operand} {h:List Value} {first cap:Array Value} (O:∀ as w,(callFunc g as).run P w=.ok (.enter g as) w) (V:ev E x=some (.func (.func g) first cap)) (U:qE E args=some h) :
  Enters P n E S (.value x) args g (first.toList++h++cap.toList):=by
 intro J G ty pos af c w D _
 have e:args.toArray.map c.eval=h.toArray:=by simp [WO D U]
 simp only [execOp,resolve,e,D.eval V,Deferred.ofValue,Sem.run_bind,Sem.run_pure,Result.andThen_ok,invoke,O]
 simp
theorem Ops.callS {x:Callee} {g:FuncId} {args:List Operand} {vs:List Value} {O:Array TypeId} {mf mr:List HA} {φ:IH→Value→List HA→Prop} (he:Enters P n E (Sym w0 M I0 I m) x args g vs)
  (ho:Outs m mf mr) (hf:Fun P g vs.toArray I mf φ) (hb:Nat.blt d n.sz=true) (U:fresh E d=true)
  (k:∀ v G J,I.le G→φ G v J→Ops P ops l n ((d,v) :: E) (Sym w0 M I0 G (J++mr)) Q) :
  Ops P ops (⟨some d,.call ⟨x,args.toArray,O⟩,ty,pos,af,none⟩ :: l) n E (Sym w0 M I0 I m) Q:=by
 intro c w D Y
 refine wpListIn_plain rfl fun K hK=>?_
 refine Z3 (he _ _ _ _ _ c w D Y) (by simp) ?_
 simp only [Oper.uponIn]
 refine ⟨fun h=>(by cases h),bL (hf.use (Y.perm ho.perm) fun v G J w' W Z V=>hK _ _ (k v G J W Z _ _ (D.put hb U v) V))⟩
theorem Ops.mkFn {D:Fn} {first cap:List Operand} {vs G:List Value} (V:qE E first=some vs) (U:qE E cap=some G) (J:Nat.blt d n.sz=true) (O:fresh E d=true)
  (k:Ops P ops l n ((d,.func D vs.toArray G.toArray) :: E) S Q):Ops P ops (⟨some d,.makeFunc D first.toArray cap.toArray,ty,pos,af,none⟩ :: l) n E S Q:=
 Ops.makeFunc (fun a h=>by simp [WO h V]) (fun a h=>by simp [WO h U]) J O k
def ZA (J:IH):List HA→Prop
 | []=>True
 | A :: r=>(∃ k:IH,A.holds J k∧k.le J)∧ZA J r
theorem eY {J h:IH} (G:h.le J) (D:I.le J):∀ {mf mr:List HA} {k:IH},OV (mf++mr) I k→k.le h→ZA J mf
 | [],_,_,_,_=>trivial
 | A :: _,mr,_,⟨h1,_,_,hl1,hl2,ha,hs⟩,hk=>⟨⟨h1,A.mono D (IH.le.refl _) ha,(hl1.trans hk).trans G⟩,eY G D (mr:=mr) hs (hl2.trans hk)⟩
theorem AdH {α:Type} {El:ET α} {T:TypeId} {a:Option Addr} {cap:Nat} {xs:List α} {J:IH} (h:∃ k:IH,(OwnSl El T a cap xs).holds J k∧k.le J):RepSl El J a cap xs:=by
 obtain ⟨k,Z,hk⟩:=h
 rcases Z with ⟨G,D,O⟩ | ⟨b,c,G,D,O,h4,U⟩
 · subst D; exact .nil _ _ _
 · refine ⟨O,fun i x hx=>?_⟩
   obtain ⟨cs,W,Y⟩:=U i x hx
   exact ⟨b,0,cs,G,⟨c,T,(0,0),hk _ _ D,fun j v V=>by rw [Nat.zero_add]; exact Y j v V⟩,W⟩
theorem Sym.grown (h:Sym w0 M I0 I m w) {w':World} (D:AaA w (fun _=>False) w'):Sym w0 M I0 I m w':=by
 obtain ⟨G,hi,W,k,Y,hk,hd,Z⟩:=h
 have O:∀ {J:IH},J.le (hp w)→J.le (hp w'):=fun hJ b o e=>by
  have U:=hJ b o e
  have:=D.block b (Q3 U) (fun x=>x)
  show w'.heap[b]? = some o
  rw [this]; exact U
 exact ⟨⟨D.os.trans G.os,D.tape.trans G.tape,D.output.trans G.output,Nat.le_trans G.drawn D.drawn,Nat.le_trans G.size D.size,fun b V h2=>(D.block b (Nat.lt_of_lt_of_le V G.size) (fun x=>x)).trans (G.block b V h2)⟩,O hi,W,k,Y,O hk,hd,Z⟩
theorem wX {g:FuncId} {vs:List Value} {mf mr:List HA} {ψ:IH→Value→Prop} (V:∀ J:IH,I.le J→ZA J mf→BH P g vs J ψ) (ho:Outs m mf mr) (G:Sym w0 M I0 I m w)
  {R:Ending→World→Prop} (Z:∀ v J w',ψ J v→Sym w0 M I0 I m w'→R (.returned v) w'):Calls P g vs.toArray w R:=by
 obtain ⟨hB,hi,hn,k,D,hk,U,hm⟩:=G.perm ho.perm
 have h:=IH.le_union_left I k
 have W:(I.union k).le (hp w):=IH.union_le hi hk
 refine (V (I.union k) h (eY (IH.le_union_right U) h D (IH.le.refl _)) w (fun _=>none) W trivial (fun _ _ x=>nomatch x) (fun _=>.inr rfl)).mono fun e w' ha=>?_
 obtain ⟨v,Y,l',rfl,_,⟨_,hψ⟩,hs'⟩:=ha
 exact Z v Y w' hψ (G.grown ⟨hs'.base.os,hs'.base.tape,hs'.base.output,hs'.base.drawn,hs'.base.size,fun b O _=>hs'.base.block b O (by simp)⟩)
theorem Ops.callB {x:Callee} {g:FuncId} {args:List Operand} {vs:List Value} {G:Array TypeId} {mf mr:List HA} {ψ:IH→Value→Prop} (he:Enters P n E (Sym w0 M I0 I m) x args g vs)
  (Y:Outs m mf mr) (hf:∀ J:IH,I.le J→ZA J mf→BH P g vs J ψ) (W:Nat.blt d n.sz=true) (O:fresh E d=true)
  (k:∀ v J,ψ J v→Ops P ops l n ((d,v) :: E) (Sym w0 M I0 I m) Q) :
  Ops P ops (⟨some d,.call ⟨x,args.toArray,G⟩,ty,pos,af,none⟩ :: l) n E (Sym w0 M I0 I m) Q:=by
 intro c w D V
 refine wpListIn_plain rfl fun K hK=>?_
 refine Z3 (he _ _ _ _ _ c w D V) (by simp) ?_
 simp only [Oper.uponIn]
 refine ⟨fun h=>(by cases h),bL (wX hf Y V fun v J w' Z U=>hK _ _ (k v J Z _ _ (D.put W O v) U))⟩
end Go.Fw
