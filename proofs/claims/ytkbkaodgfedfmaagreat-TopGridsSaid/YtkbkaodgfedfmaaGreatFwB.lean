/- The engine. -/
import Derived.Test.YtkbkaodgfedfmaaGreatFwA
import Derived.Laws.StructEq
namespace Go.Fw
open Go Go.RowKit
variable {w0 w:World} {M:Nat→Prop} {I0 I:IH} {m:List HA}
variable {P:Program} {n:FrK} {E:CZ} {S:World→Prop} {Q:Exit→Act→World→Prop} {ops:Array Oper} {l:List Oper}
variable {d ty:Nat} {pos:String} {af:Array Edge}
variable {q':IntKind}
theorem Ops.valx {o:Oper} (T:Value->World->Prop) (hg:o.guard=none) (hd:o.dst=some d)
  (W:∀ a w,Ok n E a->S w->∃ v w',(execOp a.eval o).run P w=.ok (.value v) w'∧T v w')
  (Z:Nat.blt d n.sz=true) (U:fresh E d=true) (k:∀ v,Ops P ops l n ((d,v) :: E) (T v) Q):Ops P ops (o :: l) n E S Q:=by
 intro a w D J;obtain⟨v,w',h,O⟩:=W a w D J;refine wpListIn_plain hg λK V=>?_;refine eV h (by simp) ?_;simp only[Oper.uponIn,hd];exact V _ _ (k v _ _ (D.put Z U v) O)
theorem Ops.val {o:Oper} {v:Value} (Z:o.guard=none) (U:o.dst=some d)
  (W:∀ a w,Ok n E a->S w->(execOp a.eval o).run P w=.ok (.value v) w)
  (J:Nat.blt d n.sz=true) (O:fresh E d=true) (k:Ops P ops l n ((d,v) :: E) S Q):Ops P ops (o :: l) n E S Q:=by
 intro a w D h;refine wpListIn_plain Z λK V=>?_;refine eV (W a w D h) (by simp) ?_;simp only[Oper.uponIn,U];exact V _ _ (k _ _ (D.put J O v) h)
theorem Ops.act {o:Oper} {J:World->Prop} (hg:o.guard=none) (V:o.dst=none)
  (Z:∀ a w,Ok n E a->S w->∃ w',(execOp a.eval o).run P w=.ok .skip w'∧J w') (k:Ops P ops l n E J Q):Ops P ops (o :: l) n E S Q:=by
 intro a w D O;obtain⟨w',h,U⟩:=Z a w D O;refine wpListIn_plain hg λK W=>?_;refine eV h (by simp) ?_;simp only[Oper.uponIn,V];exact W _ _ (k _ _ D U)
theorem Ops.val0 {o:Oper} {J:World->Prop} (hg:o.guard=none) (Z:o.dst=none)
  (W:∀ a w,Ok n E a->S w->∃ v w',(execOp a.eval o).run P w=.ok (.value v) w'∧J w') (k:Ops P ops l n E J Q):Ops P ops (o :: l) n E S Q:=by
 intro a w D O;obtain⟨v,w',h,U⟩:=W a w D O;refine wpListIn_plain hg λK V=>?_;refine eV h (by simp) ?_;simp only[Oper.uponIn,Z];exact V _ _ (k _ _ D U)
def kU (ops:Array Oper) (j:Nat):Option Nat:=(ops[j]?).bind (·.dst)
theorem cV {a:Act} {j s:Nat} {b:Bool} (D:kU ops j=some s) (h:a.tmps[s]? = some (.bool b)):yielded ops a.tmps j=some b:=by simp only[kU] at D;simp[yielded,D,h]
theorem Ops.gyes {h:Option Nat} {D:Op} {j s:Nat} {b c:Bool} (V:kU ops j=some s) (K:look E s=some (.bool c)) (O:c=b)
  (k:Ops P ops (⟨h,D,ty,pos,af,none⟩ :: l) n E S Q):Ops P ops (⟨h,D,ty,pos,af,some (j,b)⟩ :: l) n E S Q:=by
 subst O;intro a w J U;have hk:=k a w J U;unfold wpListIn at hk ⊢;have W:=cV (ops:=ops) V (J.env.look K);rw[if_pos (by simp[Region.wanted])] at hk;rw[if_pos (by simp[Region.wanted,W])];exact hk
theorem Ops.gno {h:Nat} {Z:Op} {j s:Nat} {b c:Bool} (W:kU ops j=some s) (K:look E s=some (.bool c)) (D:c = !b)
  (U:Nat.blt h n.sz=true) (V:fresh E h=true) (k:Ops P ops l n ((h,undef) :: E) S Q):Ops P ops (⟨some h,Z,ty,pos,af,some (j,b)⟩ :: l) n E S Q:=by
 intro a w J O;unfold wpListIn;have hy:=cV (ops:=ops) W (J.env.look K);rw[if_neg (by simp only[Region.wanted,hy]; subst D; cases b <;> simp)];exact⟨λ_ _=>trivial,k _ _ (J.put U V undef) O⟩
section
variable {x y z:Operand} {v u:Value}
theorem Ops.move (K:ev E x=some v) (h:Nat.blt d n.sz=true) (D:fresh E d=true) (k:Ops P ops l n ((d,v) :: E) S Q):Ops P ops (⟨some d,.move x,ty,pos,af,none⟩ :: l) n E S Q:=
 Ops.val rfl rfl (λa w J _=>by simp[execOp,J.eval K]) h D k
theorem Ops.pickT {c:Bool} (O:ev E x=some (.bool c)) (D:c=true) (U:ev E y=some v) (J:Nat.blt d n.sz=true) (K:fresh E d=true) (k:Ops P ops l n ((d,v) :: E) S Q) :
  Ops P ops (⟨some d,.pick x y z,ty,pos,af,none⟩ :: l) n E S Q:=
 Ops.val rfl rfl (λa w h _=>by subst D; simp[execOp,h.eval O,h.eval U,asBool]) J K k
theorem Ops.pickF {c:Bool} (O:ev E x=some (.bool c)) (D:c=false) (U:ev E z=some v) (J:Nat.blt d n.sz=true) (K:fresh E d=true) (k:Ops P ops l n ((d,v) :: E) S Q) :
  Ops P ops (⟨some d,.pick x y z,ty,pos,af,none⟩ :: l) n E S Q:=
 Ops.val rfl rfl (λa w h _=>by subst D; simp[execOp,h.eval O,h.eval U,asBool]) J K k
theorem Ops.nilCheckP {p:Addr} (K:ev E x=some (.pointer (some p))) (h:Nat.blt d n.sz=true) (D:fresh E d=true) (k:Ops P ops l n ((d,.pointer (some p)) :: E) S Q) :
  Ops P ops (⟨some d,.nilCheck x,ty,pos,af,none⟩ :: l) n E S Q:=
 Ops.val rfl rfl (λa w J _=>by simp[execOp,J.eval K]) h D k
theorem Ops.makeFunc {h:Fn} {first cap:Array Operand} {vs J:Array Value} (V:∀ a,Ok n E a->first.map a.eval=vs) (U:∀ a,Ok n E a->cap.map a.eval=J)
  (K:Nat.blt d n.sz=true) (O:fresh E d=true) (k:Ops P ops l n ((d,.func h vs J) :: E) S Q):Ops P ops (⟨some d,.makeFunc h first cap,ty,pos,af,none⟩ :: l) n E S Q:=
 Ops.val rfl rfl (λa w D _=>by simp only[execOp,Instr.makeFunc,V a D,U a D]; rfl) K O k
end
section
variable {x y:Operand} {q:IntKind} {a b:Int} {T T':TypeId}
abbrev A6 (x:Int):Int:=IntKind.wrap .i64 x
def XQ (q:IntKind) (a b:Int):Int:=q.wrap (BitVec.ofInt q.bits a &&& BitVec.ofInt q.bits b).toNat
def bor (q:IntKind) (a b:Int):Int:=q.wrap (BitVec.ofInt q.bits a ||| BitVec.ofInt q.bits b).toNat
def AmT (q:IntKind) (a b:Int):Int:=q.wrap (BitVec.ofInt q.bits a ^^^ BitVec.ofInt q.bits b).toNat
def Al1 (q:IntKind) (a b:Int):Int:=q.wrap (BitVec.ofInt q.bits a &&& ~~~ BitVec.ofInt q.bits b).toNat
def shl (q:IntKind) (a b:Int):Int:=q.wrap (a*2 ^ (min b.toNat q.bits))
def shr (q:IntKind) (a b:Int):Int:=a.fdiv (2 ^ (min b.toNat q.bits))
theorem Ops.int2 {h:BinOp} {v:Value} (W:ev E x=some (.int q a)) (V:ev E y=some (.int q b)) (K:∀ w,(binOp h T (.int q a) (.int q b)).run P w=.ok v w)
  (U:Nat.blt d n.sz=true) (J:fresh E d=true) (k:Ops P ops l n ((d,v) :: E) S Q):Ops P ops (⟨some d,.binOp h T x y T',ty,pos,af,none⟩ :: l) n E S Q:=
 Ops.val rfl rfl (λc w D _=>by
  have O:(eqGuard h T x y (.int q a) (.int q b)).run P w=.ok () w:=by unfold eqGuard; cases h <;> rfl
  simp only[execOp,D.eval W,D.eval V,Sem.run_bind,O,Result.andThen_ok,K,Sem.run_pure]) U J k
theorem Ops.add (K:ev E x=some (.int q a)) (h:ev E y=some (.int q b)) (D:Nat.blt d n.sz=true) (J:fresh E d=true) (k:Ops P ops l n ((d,.int q (q.wrap (a+b))) :: E) S Q) :
 Ops P ops (⟨some d,.binOp .add T x y T',ty,pos,af,none⟩ :: l) n E S Q:=Ops.int2 K h (λw=>by simp[binOp,Op.intArith]) D J k
theorem Ops.quo (K:ev E x=some (.int q a)) (h:ev E y=some (.int q b)) (O:b≠0) (D:Nat.blt d n.sz=true) (J:fresh E d=true) (k:Ops P ops l n ((d,.int q (q.wrap (a.tdiv b))) :: E) S Q) :
 Ops P ops (⟨some d,.binOp .quo T x y T',ty,pos,af,none⟩ :: l) n E S Q:=Ops.int2 K h (λw=>by simp[binOp,Op.intDiv,O]) D J k
theorem Ops.rem (K:ev E x=some (.int q a)) (h:ev E y=some (.int q b)) (O:b≠0) (D:Nat.blt d n.sz=true) (J:fresh E d=true) (k:Ops P ops l n ((d,.int q (a.tmod b)) :: E) S Q) :
 Ops P ops (⟨some d,.binOp .rem T x y T',ty,pos,af,none⟩ :: l) n E S Q:=Ops.int2 K h (λw=>by simp[binOp,Op.intDiv,O]) D J k
theorem Ops.and (K:ev E x=some (.int q a)) (h:ev E y=some (.int q b)) (D:Nat.blt d n.sz=true) (J:fresh E d=true) (k:Ops P ops l n ((d,.int q (XQ q a b)) :: E) S Q) :
 Ops P ops (⟨some d,.binOp .and T x y T',ty,pos,af,none⟩ :: l) n E S Q:=Ops.int2 K h (λw=>by simp[binOp,Op.intBits,XQ]) D J k
theorem Ops.eq (K:ev E x=some (.int q a)) (h:ev E y=some (.int q b)) (D:Nat.blt d n.sz=true) (J:fresh E d=true) (k:Ops P ops l n ((d,.bool (a==b)) :: E) S Q) :
 Ops P ops (⟨some d,.binOp .eql T x y T',ty,pos,af,none⟩ :: l) n E S Q:=Ops.int2 K h (λw=>by simp[binOp,Op.intCmp]) D J k
theorem Ops.ne (K:ev E x=some (.int q a)) (h:ev E y=some (.int q b)) (D:Nat.blt d n.sz=true) (J:fresh E d=true) (k:Ops P ops l n ((d,.bool (a != b)) :: E) S Q) :
 Ops P ops (⟨some d,.binOp .neq T x y T',ty,pos,af,none⟩ :: l) n E S Q:=Ops.int2 K h (λw=>by simp[binOp,Op.intCmp]) D J k
theorem Ops.gt (K:ev E x=some (.int q a)) (h:ev E y=some (.int q b)) (D:Nat.blt d n.sz=true) (J:fresh E d=true) (k:Ops P ops l n ((d,.bool (decide (b<a))) :: E) S Q) :
 Ops P ops (⟨some d,.binOp .gtr T x y T',ty,pos,af,none⟩ :: l) n E S Q:=Ops.int2 K h (λw=>by simp[binOp,Op.intCmp]) D J k
theorem Ops.sft {h:BinOp} {v:Value} (U:ev E x=some (.int q a)) (V:ev E y=some (.int q' b)) (D:h=.shl∨h=.shr) (W:∀ w,(binOp h T (.int q a) (.int q' b)).run P w=.ok v w)
  (K:Nat.blt d n.sz=true) (O:fresh E d=true) (k:Ops P ops l n ((d,v) :: E) S Q):Ops P ops (⟨some d,.binOp h T x y T',ty,pos,af,none⟩ :: l) n E S Q:=
 Ops.val rfl rfl (λc w J _=>by
  have Z:(eqGuard h T x y (.int q a) (.int q' b)).run P w=.ok () w:=by rcases D with rfl | rfl <;> rfl
  simp only[execOp,J.eval U,J.eval V,Sem.run_bind,Z,Result.andThen_ok,W,Sem.run_pure]) K O k
theorem Ops.shl' (K:ev E x=some (.int q a)) (h:ev E y=some (.int q' b)) (O:0<=b) (D:Nat.blt d n.sz=true) (J:fresh E d=true) (k:Ops P ops l n ((d,.int q (shl q a b)) :: E) S Q) :
 Ops P ops (⟨some d,.binOp .shl T x y T',ty,pos,af,none⟩ :: l) n E S Q:=Ops.sft K h (.inl rfl) (λw=>by simp[binOp,Op.shift,Fw.shl,Int.not_lt.2 O]) D J k
theorem Ops.shr' (K:ev E x=some (.int q a)) (h:ev E y=some (.int q' b)) (O:0<=b) (D:Nat.blt d n.sz=true) (J:fresh E d=true) (k:Ops P ops l n ((d,.int q (shr q a b)) :: E) S Q) :
 Ops P ops (⟨some d,.binOp .shr T x y T',ty,pos,af,none⟩ :: l) n E S Q:=Ops.sft K h (.inr rfl) (λw=>by simp[binOp,Op.shift,Fw.shr,Int.not_lt.2 O]) D J k
theorem Ops.not {b:Bool} (K:ev E x=some (.bool b)) (h:Nat.blt d n.sz=true) (D:fresh E d=true) (k:Ops P ops l n ((d,.bool (!b)) :: E) S Q) :
 Ops P ops (⟨some d,.unOp .not T x,ty,pos,af,none⟩ :: l) n E S Q:=Ops.val rfl rfl (λc w J _=>by simp[execOp,J.eval K,Op.unary]) h D k
theorem Ops.neg (K:ev E x=some (.int q a)) (h:Nat.blt d n.sz=true) (D:fresh E d=true) (k:Ops P ops l n ((d,.int q (q.wrap (0 - a))) :: E) S Q) :
 Ops P ops (⟨some d,.unOp .neg T x,ty,pos,af,none⟩ :: l) n E S Q:=Ops.val rfl rfl (λc w J _=>by simp[execOp,J.eval K,Op.unary,Op.intArith]) h D k
theorem Ops.conv {D:IntKind} (K:P.underlying T=some (.int D)) (h:P.underlying T'=some (.int q')) (V:ev E x=some (.int q a)) (J:Nat.blt d n.sz=true) (O:fresh E d=true)
  (k:Ops P ops l n ((d,.int q' (q'.wrap a)) :: E) S Q) :
  Ops P ops (⟨some d,.convert T T' x,ty,pos,af,none⟩ :: l) n E S Q:=
 Ops.val rfl rfl (λc w U _=>by simp[execOp,U.eval V,convert,run_underlying K,run_underlying h,Conv.intToInt]) J O k
theorem ZT {u v:Value} {r:Bool} (h:∀ e w,(Op.equalIn (e+1) T u v).run P w=.ok r w) (w:World):(Op.equal T u v).run P w=.ok r w:=h 9999 w
theorem Ops.eqV {u v:Value} {r:Bool} (U:ev E x=some u) (V:ev E y=some v) (W:∀ w,(Op.equal T u v).run P w=.ok r w)
  (O:∀ w,(eqGuard .eql T x y u v).run P w=.ok () w) (h:binOp .eql T u v=(do pure (.bool (<-Op.equal T u v))))
  (J:Nat.blt d n.sz=true) (K:fresh E d=true) (k:Ops P ops l n ((d,.bool r) :: E) S Q):Ops P ops (⟨some d,.binOp .eql T x y T',ty,pos,af,none⟩ :: l) n E S Q:=
 Ops.val rfl rfl (λc w D _=>by simp only[execOp,D.eval U,D.eval V,Sem.run_bind,O,Result.andThen_ok,h,W,Sem.run_pure]) J K k
theorem Ops.neV {u v:Value} {r:Bool} (U:ev E x=some u) (V:ev E y=some v) (W:∀ w,(Op.equal T u v).run P w=.ok r w)
  (O:∀ w,(eqGuard .neq T x y u v).run P w=.ok () w) (h:binOp .neq T u v=(do pure (.bool (!(<-Op.equal T u v)))))
  (J:Nat.blt d n.sz=true) (K:fresh E d=true) (k:Ops P ops l n ((d,.bool (!r)) :: E) S Q):Ops P ops (⟨some d,.binOp .neq T x y T',ty,pos,af,none⟩ :: l) n E S Q:=
 Ops.val rfl rfl (λc w D _=>by simp only[execOp,D.eval U,D.eval V,Sem.run_bind,O,Result.andThen_ok,h,W,Sem.run_pure]) J K k
theorem Ops.eqB {a b:Bool} (D:P.underlying T=some .bool) (O:ev E x=some (.bool a)) (K:ev E y=some (.bool b)) (h:Nat.blt d n.sz=true) (J:fresh E d=true) (k:Ops P ops l n ((d,.bool (a==b)) :: E) S Q) :
  Ops P ops (⟨some d,.binOp .eql T x y T',ty,pos,af,none⟩ :: l) n E S Q:=
 Ops.eqV O K (ZT λe w=>by simp[Op.equalIn,run_underlying D]) (λ_=>rfl) rfl h J k
theorem Ops.neB {a b:Bool} (D:P.underlying T=some .bool) (O:ev E x=some (.bool a)) (K:ev E y=some (.bool b)) (h:Nat.blt d n.sz=true) (J:fresh E d=true) (k:Ops P ops l n ((d,.bool (!(a==b))) :: E) S Q) :
  Ops P ops (⟨some d,.binOp .neq T x y T',ty,pos,af,none⟩ :: l) n E S Q:=
 Ops.neV O K (ZT λe w=>by simp[Op.equalIn,run_underlying D]) (λ_=>rfl) rfl h J k
theorem Ops.eqNilP {p:Option Addr} {t:TypeId} (D:P.underlying T=some (.pointer t)) (O:ev E x=some (.pointer p)) (K:ev E y=some (.pointer none)) (h:Nat.blt d n.sz=true) (J:fresh E d=true)
  (k:Ops P ops l n ((d,.bool p.isNone) :: E) S Q):Ops P ops (⟨some d,.binOp .eql T x y T',ty,pos,af,none⟩ :: l) n E S Q:=
 Ops.eqV O K (ZT λe w=>by cases p <;> simp[Op.equalIn,run_underlying D]) (λ_=>rfl) rfl h J k
theorem Ops.neNilP {p:Option Addr} {t:TypeId} (D:P.underlying T=some (.pointer t)) (O:ev E x=some (.pointer p)) (K:ev E y=some (.pointer none)) (h:Nat.blt d n.sz=true) (J:fresh E d=true)
  (k:Ops P ops l n ((d,.bool (!p.isNone)) :: E) S Q):Ops P ops (⟨some d,.binOp .neq T x y T',ty,pos,af,none⟩ :: l) n E S Q:=
 Ops.neV O K (ZT λe w=>by cases p <;> simp[Op.equalIn,run_underlying D]) (λ_=>rfl) rfl h J k
end
theorem Ops.minI {x y:Operand} {q:IntKind} {a b:Int} {h:Array TypeId} (O:ev E x=some (.int q a)) (U:ev E y=some (.int q b)) (J:Nat.blt d n.sz=true) (K:fresh E d=true)
  (k:Ops P ops l n ((d,.int q (if b<a then b else a)) :: E) S Q):Ops P ops (⟨some d,.call ⟨.builtin .min,#[x,y],h⟩,ty,pos,af,none⟩ :: l) n E S Q:=
 Ops.val rfl rfl (λc w D _=>by simp[execOp,resolve,invoke,builtin,Builtin.min_,Builtin.min2,D.eval O,D.eval U]) J K k
theorem Ops.maxI {x y:Operand} {q:IntKind} {a b:Int} {h:Array TypeId} (O:ev E x=some (.int q a)) (U:ev E y=some (.int q b)) (J:Nat.blt d n.sz=true) (K:fresh E d=true)
  (k:Ops P ops l n ((d,.int q (if b > a then b else a)) :: E) S Q):Ops P ops (⟨some d,.call ⟨.builtin .max,#[x,y],h⟩,ty,pos,af,none⟩ :: l) n E S Q:=
 Ops.val rfl rfl (λc w D _=>by simp[execOp,resolve,invoke,builtin,Builtin.max_,Builtin.max2,D.eval O,D.eval U]) J K k
theorem eqS {T:TypeId} {k:Nat} {D:Array Field} {xs ys:Array Value} {r:Bool} (J:P.underlying T=some (.struct D)) (hp:P.stoodInHeld T=false) (h:∀ w,(Op.eqFields k xs ys D.toList).run P w=.ok r w) (w:World) :
  (Op.equalIn (k+1) T (.agg xs) (.agg ys)).run P w=.ok r w:=by
 have e0:P.fieldsOf T=D:=by simp[Program.fieldsOf,J]
 rw[run_equalIn_struct w k T xs ys (by rw[J,e0]) hp,e0]; exact h w
theorem eqN {k:Nat} {xs ys:Array Value} (w:World):(Op.eqFields k xs ys []).run P w=.ok true w:=rfl
theorem eqC {k:Nat} {xs ys:Array Value} {f:Field} {D:List Field} {u v:Value} {b r:Bool} (O:f.name ≠ "_") (U:∀ w,(isAgg f.type).run P w=.ok false w) (V:xs[f.offset]? = some u) (K:ys[f.offset]? = some v)
  (J:∀ w,(Op.equalIn k f.type u v).run P w=.ok b w) (h:∀ w,(Op.eqFields k xs ys D).run P w=.ok r w) (w:World):(Op.eqFields k xs ys (f :: D)).run P w=.ok (b && r) w:=by
 simp only[Op.eqFields,O,ne_eq,not_false_eq_true,if_true,Sem.run_bind,part,U,Result.andThen_ok,Bool.false_eq_true,if_false,V,K,Sem.run_pure,J];cases b <;> simp[h]
theorem eqI {T:TypeId} {k:Nat} {q:IntKind} {a b:Int} (h:P.underlying T=some (.int q')) (w:World):(Op.equalIn (k+1) T (.int q a) (.int q b)).run P w=.ok (a==b) w:=run_equalIn_int w k T q q' a b h
end Go.Fw
