/- The engine, part B: the rules of the single operations (numbers, variables, memory of the call's own). -/
import Derived.Test.YtbohadngdkjljaaGreatFwA
import Derived.Laws.StructEq
namespace Go.Fw
open Go Go.RowKit
variable {w0 w:World} {M:Nat→Prop} {I0 I:IH} {m:List HA}
variable {P:Program} {n:FrK} {E:DH} {S:World→Prop} {Q:Exit→Act→World→Prop} {ops:Array Oper} {l:List Oper}
variable {d ty:Nat} {pos:String} {af:Array Edge}
theorem Ops.valx {o:Oper} (T:Value→World→Prop) (hg:o.guard=none) (hd:o.dst=some d)
    (hr:∀ a w,Ok n E a→S w→∃ v w',(execOp a.eval o).run P w=.ok (.value v) w'∧T v w')
    (hb:Nat.blt d n.sz=true) (hf:fresh E d=true) (k:∀ v,Ops P ops l n ((d,v) :: E) (T v) Q):Ops P ops (o :: l) n E S Q:=by
  intro a w ho hs
  obtain ⟨v,w',hrun,hT⟩:=hr a w ho hs
  refine wpListIn_plain hg fun K hK=>?_
  refine aM hrun (by simp) ?_
  simp only [Oper.uponIn,hd]
  exact hK _ _ (k v _ _ (ho.put hb hf v) hT)
theorem Ops.val {o:Oper} {v:Value} (hg:o.guard=none) (hd:o.dst=some d)
    (hr:∀ a w,Ok n E a→S w→(execOp a.eval o).run P w=.ok (.value v) w)
    (hb:Nat.blt d n.sz=true) (hf:fresh E d=true) (k:Ops P ops l n ((d,v) :: E) S Q):Ops P ops (o :: l) n E S Q:=by
  intro a w ho hs
  refine wpListIn_plain hg fun K hK=>?_
  refine aM (hr a w ho hs) (by simp) ?_
  simp only [Oper.uponIn,hd]
  exact hK _ _ (k _ _ (ho.put hb hf v) hs)
theorem Ops.act {o:Oper} {S':World→Prop} (hg:o.guard=none) (hd:o.dst=none)
    (hr:∀ a w,Ok n E a→S w→∃ w',(execOp a.eval o).run P w=.ok .skip w'∧S' w') (k:Ops P ops l n E S' Q):Ops P ops (o :: l) n E S Q:=by
  intro a w ho hs
  obtain ⟨w',hrun,hT⟩:=hr a w ho hs
  refine wpListIn_plain hg fun K hK=>?_
  refine aM hrun (by simp) ?_
  simp only [Oper.uponIn,hd]
  exact hK _ _ (k _ _ ho hT)
theorem Ops.val0 {o:Oper} {S':World→Prop} (hg:o.guard=none) (hd:o.dst=none)
    (hr:∀ a w,Ok n E a→S w→∃ v w',(execOp a.eval o).run P w=.ok (.value v) w'∧S' w') (k:Ops P ops l n E S' Q):Ops P ops (o :: l) n E S Q:=by
  intro a w ho hs
  obtain ⟨v,w',hrun,hT⟩:=hr a w ho hs
  refine wpListIn_plain hg fun K hK=>?_
  refine aM hrun (by simp) ?_
  simp only [Oper.uponIn,hd]
  exact hK _ _ (k _ _ ho hT)
def Z2 (ops:Array Oper) (j:Nat):Option Nat:=(ops[j]?).bind (·.dst)
theorem ZL {a:Act} {j s:Nat} {b:Bool} (hj:Z2 ops j=some s) (h:a.tmps[s]? = some (.bool b)):yielded ops a.tmps j=some b:=by
  simp only [Z2] at hj
  simp [yielded,hj,h]
theorem Ops.gyes {dst:Option Nat} {op:Op} {j s:Nat} {b c:Bool} (hj:Z2 ops j=some s) (hs:look E s=some (.bool c)) (hc:c=b)
    (k:Ops P ops (⟨dst,op,ty,pos,af,none⟩ :: l) n E S Q):Ops P ops (⟨dst,op,ty,pos,af,some (j,b)⟩ :: l) n E S Q:=by
  subst hc
  intro a w ho hw
  have hk:=k a w ho hw
  unfold wpListIn at hk ⊢
  have hy:=ZL (ops:=ops) hj (ho.env.look hs)
  rw [if_pos (by simp [Region.wanted])] at hk
  rw [if_pos (by simp [Region.wanted,hy])]
  exact hk
theorem Ops.gno {dst:Nat} {op:Op} {j s:Nat} {b c:Bool} (hj:Z2 ops j=some s) (hs:look E s=some (.bool c)) (hbc:c = !b)
    (hb:Nat.blt dst n.sz=true) (hf:fresh E dst=true) (k:Ops P ops l n ((dst,undef) :: E) S Q):Ops P ops (⟨some dst,op,ty,pos,af,some (j,b)⟩ :: l) n E S Q:=by
  intro a w ho hw
  unfold wpListIn
  have hy:=ZL (ops:=ops) hj (ho.env.look hs)
  rw [if_neg (by simp only [Region.wanted,hy]; subst hbc; cases b <;> simp)]
  exact ⟨fun _ _=>trivial,k _ _ (ho.put hb hf undef) hw⟩
section
variable {x y z:Operand} {v u:Value}
theorem Ops.move (hx:ev E x=some v) (hb:Nat.blt d n.sz=true) (hf:fresh E d=true) (k:Ops P ops l n ((d,v) :: E) S Q):Ops P ops (⟨some d,.move x,ty,pos,af,none⟩ :: l) n E S Q:=
  Ops.val rfl rfl (fun a w ho _=>by simp [execOp,ho.eval hx]) hb hf k
theorem Ops.assign (hx:ev E x=some v) (hb:Nat.blt d n.sz=true) (hf:fresh E d=true) (k:Ops P ops l n ((d,v) :: E) S Q):Ops P ops (⟨some d,.assign x,ty,pos,af,none⟩ :: l) n E S Q:=
  Ops.val rfl rfl (fun a w ho _=>by simp [execOp,ho.eval hx]) hb hf k
theorem Ops.pickT {c:Bool} (hx:ev E x=some (.bool c)) (hc:c=true) (hy:ev E y=some v) (hb:Nat.blt d n.sz=true) (hf:fresh E d=true) (k:Ops P ops l n ((d,v) :: E) S Q) :
    Ops P ops (⟨some d,.pick x y z,ty,pos,af,none⟩ :: l) n E S Q:=
  Ops.val rfl rfl (fun a w ho _=>by subst hc; simp [execOp,ho.eval hx,ho.eval hy,asBool]) hb hf k
theorem Ops.pickF {c:Bool} (hx:ev E x=some (.bool c)) (hc:c=false) (hy:ev E z=some v) (hb:Nat.blt d n.sz=true) (hf:fresh E d=true) (k:Ops P ops l n ((d,v) :: E) S Q) :
    Ops P ops (⟨some d,.pick x y z,ty,pos,af,none⟩ :: l) n E S Q:=
  Ops.val rfl rfl (fun a w ho _=>by subst hc; simp [execOp,ho.eval hx,ho.eval hy,asBool]) hb hf k
theorem Ops.extract {vs:Array Value} {i:Nat} (hx:ev E x=some (.tuple vs)) (hi:vs[i]? = some v) (hb:Nat.blt d n.sz=true) (hf:fresh E d=true) (k:Ops P ops l n ((d,v) :: E) S Q) :
    Ops P ops (⟨some d,.extract x i,ty,pos,af,none⟩ :: l) n E S Q:=
  Ops.val rfl rfl (fun a w ho _=>by simp [execOp,ho.eval hx,Instr.extract,hi]) hb hf k
theorem Ops.makeFunc {fn:Fn} {first cap:Array Operand} {vs us:Array Value} (h1:∀ a,Ok n E a→first.map a.eval=vs) (h2:∀ a,Ok n E a→cap.map a.eval=us)
    (hb:Nat.blt d n.sz=true) (hf:fresh E d=true) (k:Ops P ops l n ((d,.func fn vs us) :: E) S Q):Ops P ops (⟨some d,.makeFunc fn first cap,ty,pos,af,none⟩ :: l) n E S Q:=
  Ops.val rfl rfl (fun a w ho _=>by simp only [execOp,Instr.makeFunc,h1 a ho,h2 a ho]; rfl) hb hf k
end
section
variable {x y:Operand} {q:IntKind} {a b:Int} {T T':TypeId}
abbrev AH (x:Int):Int:=IntKind.wrap .i64 x
def fU (q:IntKind) (a b:Int):Int:=q.wrap (BitVec.ofInt q.bits a &&& BitVec.ofInt q.bits b).toNat
def bor (q:IntKind) (a b:Int):Int:=q.wrap (BitVec.ofInt q.bits a ||| BitVec.ofInt q.bits b).toNat
def Ae2 (q:IntKind) (a b:Int):Int:=q.wrap (BitVec.ofInt q.bits a ^^^ BitVec.ofInt q.bits b).toNat
def xH (q:IntKind) (a b:Int):Int:=q.wrap (BitVec.ofInt q.bits a &&& ~~~ BitVec.ofInt q.bits b).toNat
def shl (q:IntKind) (a b:Int):Int:=q.wrap (a*2 ^ (min b.toNat q.bits))
def shr (q:IntKind) (a b:Int):Int:=a.fdiv (2 ^ (min b.toNat q.bits))
theorem Ops.int2 {op:BinOp} {v:Value} (hx:ev E x=some (.int q a)) (hy:ev E y=some (.int q b)) (hr:∀ w,(binOp op T (.int q a) (.int q b)).run P w=.ok v w)
    (hb:Nat.blt d n.sz=true) (hf:fresh E d=true) (k:Ops P ops l n ((d,v) :: E) S Q):Ops P ops (⟨some d,.binOp op T x y T',ty,pos,af,none⟩ :: l) n E S Q:=
  Ops.val rfl rfl (fun c w ho _=>by
    have hg:(eqGuard op T x y (.int q a) (.int q b)).run P w=.ok () w:=by unfold eqGuard; cases op <;> rfl
    simp only [execOp,ho.eval hx,ho.eval hy,Sem.run_bind,hg,Result.andThen_ok,hr,Sem.run_pure]) hb hf k
theorem Ops.add (hx:ev E x=some (.int q a)) (hy:ev E y=some (.int q b)) (hb:Nat.blt d n.sz=true) (hf:fresh E d=true) (k:Ops P ops l n ((d,.int q (q.wrap (a+b))) :: E) S Q) :
    Ops P ops (⟨some d,.binOp .add T x y T',ty,pos,af,none⟩ :: l) n E S Q:=Ops.int2 hx hy (fun w=>by simp [binOp,Op.intArith]) hb hf k
theorem Ops.sub' (hx:ev E x=some (.int q a)) (hy:ev E y=some (.int q b)) (hb:Nat.blt d n.sz=true) (hf:fresh E d=true) (k:Ops P ops l n ((d,.int q (q.wrap (a - b))) :: E) S Q) :
    Ops P ops (⟨some d,.binOp .sub T x y T',ty,pos,af,none⟩ :: l) n E S Q:=Ops.int2 hx hy (fun w=>by simp [binOp,Op.intArith]) hb hf k
theorem Ops.mul (hx:ev E x=some (.int q a)) (hy:ev E y=some (.int q b)) (hb:Nat.blt d n.sz=true) (hf:fresh E d=true) (k:Ops P ops l n ((d,.int q (q.wrap (a*b))) :: E) S Q) :
    Ops P ops (⟨some d,.binOp .mul T x y T',ty,pos,af,none⟩ :: l) n E S Q:=Ops.int2 hx hy (fun w=>by simp [binOp,Op.intArith]) hb hf k
theorem Ops.quo (hx:ev E x=some (.int q a)) (hy:ev E y=some (.int q b)) (h0:b≠0) (hb:Nat.blt d n.sz=true) (hf:fresh E d=true) (k:Ops P ops l n ((d,.int q (q.wrap (a.tdiv b))) :: E) S Q) :
    Ops P ops (⟨some d,.binOp .quo T x y T',ty,pos,af,none⟩ :: l) n E S Q:=Ops.int2 hx hy (fun w=>by simp [binOp,Op.intDiv,h0]) hb hf k
theorem Ops.rem (hx:ev E x=some (.int q a)) (hy:ev E y=some (.int q b)) (h0:b≠0) (hb:Nat.blt d n.sz=true) (hf:fresh E d=true) (k:Ops P ops l n ((d,.int q (a.tmod b)) :: E) S Q) :
    Ops P ops (⟨some d,.binOp .rem T x y T',ty,pos,af,none⟩ :: l) n E S Q:=Ops.int2 hx hy (fun w=>by simp [binOp,Op.intDiv,h0]) hb hf k
theorem Ops.and (hx:ev E x=some (.int q a)) (hy:ev E y=some (.int q b)) (hb:Nat.blt d n.sz=true) (hf:fresh E d=true) (k:Ops P ops l n ((d,.int q (fU q a b)) :: E) S Q) :
    Ops P ops (⟨some d,.binOp .and T x y T',ty,pos,af,none⟩ :: l) n E S Q:=Ops.int2 hx hy (fun w=>by simp [binOp,Op.intBits,fU]) hb hf k
theorem Ops.or (hx:ev E x=some (.int q a)) (hy:ev E y=some (.int q b)) (hb:Nat.blt d n.sz=true) (hf:fresh E d=true) (k:Ops P ops l n ((d,.int q (bor q a b)) :: E) S Q) :
    Ops P ops (⟨some d,.binOp .or T x y T',ty,pos,af,none⟩ :: l) n E S Q:=Ops.int2 hx hy (fun w=>by simp [binOp,Op.intBits,bor]) hb hf k
theorem Ops.xor (hx:ev E x=some (.int q a)) (hy:ev E y=some (.int q b)) (hb:Nat.blt d n.sz=true) (hf:fresh E d=true) (k:Ops P ops l n ((d,.int q (Ae2 q a b)) :: E) S Q) :
    Ops P ops (⟨some d,.binOp .xor T x y T',ty,pos,af,none⟩ :: l) n E S Q:=Ops.int2 hx hy (fun w=>by simp [binOp,Op.intBits,Ae2]) hb hf k
theorem Ops.andNot (hx:ev E x=some (.int q a)) (hy:ev E y=some (.int q b)) (hb:Nat.blt d n.sz=true) (hf:fresh E d=true) (k:Ops P ops l n ((d,.int q (xH q a b)) :: E) S Q) :
    Ops P ops (⟨some d,.binOp .andNot T x y T',ty,pos,af,none⟩ :: l) n E S Q:=Ops.int2 hx hy (fun w=>by simp [binOp,Op.intBits,xH]) hb hf k
theorem Ops.eq (hx:ev E x=some (.int q a)) (hy:ev E y=some (.int q b)) (hb:Nat.blt d n.sz=true) (hf:fresh E d=true) (k:Ops P ops l n ((d,.bool (a==b)) :: E) S Q) :
    Ops P ops (⟨some d,.binOp .eql T x y T',ty,pos,af,none⟩ :: l) n E S Q:=Ops.int2 hx hy (fun w=>by simp [binOp,Op.intCmp]) hb hf k
theorem Ops.lt (hx:ev E x=some (.int q a)) (hy:ev E y=some (.int q b)) (hb:Nat.blt d n.sz=true) (hf:fresh E d=true) (k:Ops P ops l n ((d,.bool (decide (a<b))) :: E) S Q) :
    Ops P ops (⟨some d,.binOp .lss T x y T',ty,pos,af,none⟩ :: l) n E S Q:=Ops.int2 hx hy (fun w=>by simp [binOp,Op.intCmp]) hb hf k
theorem Ops.ge (hx:ev E x=some (.int q a)) (hy:ev E y=some (.int q b)) (hb:Nat.blt d n.sz=true) (hf:fresh E d=true) (k:Ops P ops l n ((d,.bool (decide (b≤a))) :: E) S Q) :
    Ops P ops (⟨some d,.binOp .geq T x y T',ty,pos,af,none⟩ :: l) n E S Q:=Ops.int2 hx hy (fun w=>by simp [binOp,Op.intCmp]) hb hf k
theorem Ops.sft {op:BinOp} {q':IntKind} {v:Value} (hx:ev E x=some (.int q a)) (hy:ev E y=some (.int q' b)) (ho':op=.shl∨op=.shr) (hr:∀ w,(binOp op T (.int q a) (.int q' b)).run P w=.ok v w)
    (hb:Nat.blt d n.sz=true) (hf:fresh E d=true) (k:Ops P ops l n ((d,v) :: E) S Q):Ops P ops (⟨some d,.binOp op T x y T',ty,pos,af,none⟩ :: l) n E S Q:=
  Ops.val rfl rfl (fun c w ho _=>by
    have hg:(eqGuard op T x y (.int q a) (.int q' b)).run P w=.ok () w:=by rcases ho' with rfl | rfl <;> rfl
    simp only [execOp,ho.eval hx,ho.eval hy,Sem.run_bind,hg,Result.andThen_ok,hr,Sem.run_pure]) hb hf k
theorem Ops.shl' {q':IntKind} (hx:ev E x=some (.int q a)) (hy:ev E y=some (.int q' b)) (h0:0≤b) (hb:Nat.blt d n.sz=true) (hf:fresh E d=true) (k:Ops P ops l n ((d,.int q (shl q a b)) :: E) S Q) :
    Ops P ops (⟨some d,.binOp .shl T x y T',ty,pos,af,none⟩ :: l) n E S Q:=Ops.sft hx hy (.inl rfl) (fun w=>by simp [binOp,Op.shift,Fw.shl,Int.not_lt.2 h0]) hb hf k
theorem Ops.shr' {q':IntKind} (hx:ev E x=some (.int q a)) (hy:ev E y=some (.int q' b)) (h0:0≤b) (hb:Nat.blt d n.sz=true) (hf:fresh E d=true) (k:Ops P ops l n ((d,.int q (shr q a b)) :: E) S Q) :
    Ops P ops (⟨some d,.binOp .shr T x y T',ty,pos,af,none⟩ :: l) n E S Q:=Ops.sft hx hy (.inr rfl) (fun w=>by simp [binOp,Op.shift,Fw.shr,Int.not_lt.2 h0]) hb hf k
theorem Ops.not {b:Bool} (hx:ev E x=some (.bool b)) (hb:Nat.blt d n.sz=true) (hf:fresh E d=true) (k:Ops P ops l n ((d,.bool (!b)) :: E) S Q) :
    Ops P ops (⟨some d,.unOp .not T x,ty,pos,af,none⟩ :: l) n E S Q:=Ops.val rfl rfl (fun c w ho _=>by simp [execOp,ho.eval hx,Op.unary]) hb hf k
theorem Ops.neg (hx:ev E x=some (.int q a)) (hb:Nat.blt d n.sz=true) (hf:fresh E d=true) (k:Ops P ops l n ((d,.int q (q.wrap (0 - a))) :: E) S Q) :
    Ops P ops (⟨some d,.unOp .neg T x,ty,pos,af,none⟩ :: l) n E S Q:=Ops.val rfl rfl (fun c w ho _=>by simp [execOp,ho.eval hx,Op.unary,Op.intArith]) hb hf k
theorem Ops.conv {q' q'':IntKind} (hT:P.underlying T=some (.int q'')) (hT':P.underlying T'=some (.int q')) (hx:ev E x=some (.int q a)) (hb:Nat.blt d n.sz=true) (hf:fresh E d=true)
    (k:Ops P ops l n ((d,.int q' (q'.wrap a)) :: E) S Q) :
    Ops P ops (⟨some d,.convert T T' x,ty,pos,af,none⟩ :: l) n E S Q:=
  Ops.val rfl rfl (fun c w ho _=>by simp [execOp,ho.eval hx,convert,run_underlying hT,run_underlying hT',Conv.intToInt]) hb hf k
theorem dH {u v:Value} {r:Bool} (h:∀ e w,(Op.equalIn (e+1) T u v).run P w=.ok r w) (w:World):(Op.equal T u v).run P w=.ok r w:=h 9999 w
theorem Ops.eqV {u v:Value} {r:Bool} (hx:ev E x=some u) (hy:ev E y=some v) (hr:∀ w,(Op.equal T u v).run P w=.ok r w)
    (hg:∀ w,(eqGuard .eql T x y u v).run P w=.ok () w) (hbo:binOp .eql T u v=(do pure (.bool (←Op.equal T u v))))
    (hb:Nat.blt d n.sz=true) (hf:fresh E d=true) (k:Ops P ops l n ((d,.bool r) :: E) S Q):Ops P ops (⟨some d,.binOp .eql T x y T',ty,pos,af,none⟩ :: l) n E S Q:=
  Ops.val rfl rfl (fun c w ho _=>by
    simp only [execOp,ho.eval hx,ho.eval hy,Sem.run_bind,hg,Result.andThen_ok,hbo,hr,Sem.run_pure]) hb hf k
theorem Ops.neV {u v:Value} {r:Bool} (hx:ev E x=some u) (hy:ev E y=some v) (hr:∀ w,(Op.equal T u v).run P w=.ok r w)
    (hg:∀ w,(eqGuard .neq T x y u v).run P w=.ok () w) (hbo:binOp .neq T u v=(do pure (.bool (!(←Op.equal T u v)))))
    (hb:Nat.blt d n.sz=true) (hf:fresh E d=true) (k:Ops P ops l n ((d,.bool (!r)) :: E) S Q):Ops P ops (⟨some d,.binOp .neq T x y T',ty,pos,af,none⟩ :: l) n E S Q:=
  Ops.val rfl rfl (fun c w ho _=>by
    simp only [execOp,ho.eval hx,ho.eval hy,Sem.run_bind,hg,Result.andThen_ok,hbo,hr,Sem.run_pure]) hb hf k
theorem Ops.neB {a b:Bool} (hT:P.underlying T=some .bool) (hx:ev E x=some (.bool a)) (hy:ev E y=some (.bool b)) (hb:Nat.blt d n.sz=true) (hf:fresh E d=true) (k:Ops P ops l n ((d,.bool (!(a==b))) :: E) S Q) :
    Ops P ops (⟨some d,.binOp .neq T x y T',ty,pos,af,none⟩ :: l) n E S Q:=
  Ops.neV hx hy (dH fun e w=>by simp [Op.equalIn,run_underlying hT]) (fun _=>rfl) rfl hb hf k
theorem Ops.eqNilP {p:Option Addr} {t:TypeId} (hT:P.underlying T=some (.pointer t)) (hx:ev E x=some (.pointer p)) (hy:ev E y=some (.pointer none)) (hb:Nat.blt d n.sz=true) (hf:fresh E d=true)
    (k:Ops P ops l n ((d,.bool p.isNone) :: E) S Q):Ops P ops (⟨some d,.binOp .eql T x y T',ty,pos,af,none⟩ :: l) n E S Q:=
  Ops.eqV hx hy (dH fun e w=>by cases p <;> simp [Op.equalIn,run_underlying hT]) (fun _=>rfl) rfl hb hf k
theorem Ops.neNilP {p:Option Addr} {t:TypeId} (hT:P.underlying T=some (.pointer t)) (hx:ev E x=some (.pointer p)) (hy:ev E y=some (.pointer none)) (hb:Nat.blt d n.sz=true) (hf:fresh E d=true)
    (k:Ops P ops l n ((d,.bool (!p.isNone)) :: E) S Q):Ops P ops (⟨some d,.binOp .neq T x y T',ty,pos,af,none⟩ :: l) n E S Q:=
  Ops.neV hx hy (dH fun e w=>by cases p <;> simp [Op.equalIn,run_underlying hT]) (fun _=>rfl) rfl hb hf k
end
theorem Ops.minI {x y:Operand} {q:IntKind} {a b:Int} {tys:Array TypeId} (hx:ev E x=some (.int q a)) (hy:ev E y=some (.int q b)) (hb:Nat.blt d n.sz=true) (hf:fresh E d=true)
    (k:Ops P ops l n ((d,.int q (if b<a then b else a)) :: E) S Q):Ops P ops (⟨some d,.call ⟨.builtin .min,#[x,y],tys⟩,ty,pos,af,none⟩ :: l) n E S Q:=
  Ops.val rfl rfl (fun c w ho _=>by simp [execOp,resolve,invoke,builtin,Builtin.min_,Builtin.min2,ho.eval hx,ho.eval hy]) hb hf k
theorem Ops.maxI {x y:Operand} {q:IntKind} {a b:Int} {tys:Array TypeId} (hx:ev E x=some (.int q a)) (hy:ev E y=some (.int q b)) (hb:Nat.blt d n.sz=true) (hf:fresh E d=true)
    (k:Ops P ops l n ((d,.int q (if b > a then b else a)) :: E) S Q):Ops P ops (⟨some d,.call ⟨.builtin .max,#[x,y],tys⟩,ty,pos,af,none⟩ :: l) n E S Q:=
  Ops.val rfl rfl (fun c w ho _=>by simp [execOp,resolve,invoke,builtin,Builtin.max_,Builtin.max2,ho.eval hx,ho.eval hy]) hb hf k
theorem eqS {T:TypeId} {k:Nat} {fs:Array Field} {xs ys:Array Value} {r:Bool} (hT:P.underlying T=some (.struct fs)) (hp:P.stoodInHeld T=false) (h:∀ w,(Op.eqFields k xs ys fs.toList).run P w=.ok r w) (w:World) :
    (Op.equalIn (k+1) T (.agg xs) (.agg ys)).run P w=.ok r w:=by
  have e0:P.fieldsOf T=fs:=by simp [Program.fieldsOf,hT]
  rw [run_equalIn_struct w k T xs ys (by rw [hT,e0]) hp,e0]; exact h w
theorem eqN {k:Nat} {xs ys:Array Value} (w:World):(Op.eqFields k xs ys []).run P w=.ok true w:=rfl
theorem eqC {k:Nat} {xs ys:Array Value} {f:Field} {fs:List Field} {u v:Value} {b r:Bool} (hn:f.name ≠ "_") (hA:∀ w,(isAgg f.type).run P w=.ok false w) (hx:xs[f.offset]? = some u) (hy:ys[f.offset]? = some v)
    (he:∀ w,(Op.equalIn k f.type u v).run P w=.ok b w) (h:∀ w,(Op.eqFields k xs ys fs).run P w=.ok r w) (w:World):(Op.eqFields k xs ys (f :: fs)).run P w=.ok (b && r) w:=by
  simp only [Op.eqFields,hn,ne_eq,not_false_eq_true,if_true,Sem.run_bind,part,hA,Result.andThen_ok,Bool.false_eq_true,if_false,hx,hy,Sem.run_pure,he]
  cases b <;> simp [h]
theorem eqA {k s:Nat} {xs ys:Array Value} {f:Field} {fs:List Field} {b r:Bool} (hn:f.name ≠ "_") (hA:∀ w,(isAgg f.type).run P w=.ok true w) (hS:∀ w,(sizeOf f.type).run P w=.ok s w)
    (he:∀ w,(Op.equalIn k f.type (.agg (xs.extract f.offset (f.offset+s))) (.agg (ys.extract f.offset (f.offset+s)))).run P w=.ok b w) (h:∀ w,(Op.eqFields k xs ys fs).run P w=.ok r w) (w:World) :
    (Op.eqFields k xs ys (f :: fs)).run P w=.ok (b && r) w:=by
  simp only [Op.eqFields,hn,ne_eq,not_false_eq_true,if_true,Sem.run_bind,part,hA,Result.andThen_ok,hS,Sem.run_pure,he]
  cases b <;> simp [h]
theorem eqI {T:TypeId} {k:Nat} {q q':IntKind} {a b:Int} (hT:P.underlying T=some (.int q')) (w:World):(Op.equalIn (k+1) T (.int q a) (.int q b)).run P w=.ok (a==b) w:=run_equalIn_int w k T q q' a b hT
end Go.Fw
