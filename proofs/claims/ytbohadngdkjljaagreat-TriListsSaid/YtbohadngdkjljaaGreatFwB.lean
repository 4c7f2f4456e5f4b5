/- The engine, part B: the rules of the single operations (numbers, variables, memory of the call's own). -/
import Derived.Test.YtbohadngdkjljaaGreatFwA
import Derived.Laws.StructEq
namespace Go.Fw
open Go Go.RowKit
variable {w0 w:World} {M:Nat→Prop} {I0 I:IH} {m:List HA}
variable {P:Program} {n:FrK} {E:DY} {S:World→Prop} {Q:Exit→Act→World→Prop} {ops:Array Oper} {l:List Oper}
variable {d ty:Nat} {pos:String} {af:Array Edge}
theorem Ops.valx {o:Oper} (T:Value→World→Prop) (G:o.guard=none) (J:o.dst=some d)
    (U:∀ a w,Ok n E a→S w→∃ v w',(execOp a.eval o).run P w=.ok (.value v) w'∧T v w')
    (O:Nat.blt d n.sz=true) (Y:fresh E d=true) (k:∀ v,Ops P ops l n ((d,v) :: E) (T v) Q):Ops P ops (o :: l) n E S Q:=by
  intro a w D W
  obtain ⟨v,w',h,Z⟩:=U a w D W
  refine wpListIn_plain G fun K V=>?_
  refine cG h (by simp) ?_
  simp only [Oper.uponIn,J]
  exact V _ _ (k v _ _ (D.put O Y v) Z)
theorem Ops.val {o:Oper} {v:Value} (G:o.guard=none) (J:o.dst=some d)
    (U:∀ a w,Ok n E a→S w→(execOp a.eval o).run P w=.ok (.value v) w)
    (O:Nat.blt d n.sz=true) (W:fresh E d=true) (k:Ops P ops l n ((d,v) :: E) S Q):Ops P ops (o :: l) n E S Q:=by
  intro a w h D
  refine wpListIn_plain G fun K V=>?_
  refine cG (U a w h D) (by simp) ?_
  simp only [Oper.uponIn,J]
  exact V _ _ (k _ _ (h.put O W v) D)
theorem Ops.act {o:Oper} {G:World→Prop} (J:o.guard=none) (O:o.dst=none)
    (U:∀ a w,Ok n E a→S w→∃ w',(execOp a.eval o).run P w=.ok .skip w'∧G w') (k:Ops P ops l n E G Q):Ops P ops (o :: l) n E S Q:=by
  intro a w D W
  obtain ⟨w',h,Y⟩:=U a w D W
  refine wpListIn_plain J fun K V=>?_
  refine cG h (by simp) ?_
  simp only [Oper.uponIn,O]
  exact V _ _ (k _ _ D Y)
theorem Ops.val0 {o:Oper} {G:World→Prop} (J:o.guard=none) (O:o.dst=none)
    (U:∀ a w,Ok n E a→S w→∃ v w',(execOp a.eval o).run P w=.ok (.value v) w'∧G w') (k:Ops P ops l n E G Q):Ops P ops (o :: l) n E S Q:=by
  intro a w D W
  obtain ⟨v,w',h,Y⟩:=U a w D W
  refine wpListIn_plain J fun K V=>?_
  refine cG h (by simp) ?_
  simp only [Oper.uponIn,O]
  exact V _ _ (k _ _ D Y)
def jS (ops:Array Oper) (j:Nat):Option Nat:=(ops[j]?).bind (·.dst)
theorem bE {a:Act} {j s:Nat} {b:Bool} (D:jS ops j=some s) (h:a.tmps[s]? = some (.bool b)):yielded ops a.tmps j=some b:=by
  simp only [jS] at D
  simp [yielded,D,h]
theorem Ops.gyes {h:Option Nat} {G:Op} {j s:Nat} {b c:Bool} (J:jS ops j=some s) (W:look E s=some (.bool c)) (O:c=b)
    (k:Ops P ops (⟨h,G,ty,pos,af,none⟩ :: l) n E S Q):Ops P ops (⟨h,G,ty,pos,af,some (j,b)⟩ :: l) n E S Q:=by
  subst O
  intro a w D V
  have hk:=k a w D V
  unfold wpListIn at hk ⊢
  have U:=bE (ops:=ops) J (D.env.look W)
  rw [if_pos (by simp [Region.wanted])] at hk
  rw [if_pos (by simp [Region.wanted,U])]
  exact hk
theorem Ops.gno {h:Nat} {V:Op} {j s:Nat} {b c:Bool} (J:jS ops j=some s) (Y:look E s=some (.bool c)) (D:c = !b)
    (W:Nat.blt h n.sz=true) (Z:fresh E h=true) (k:Ops P ops l n ((h,undef) :: E) S Q):Ops P ops (⟨some h,V,ty,pos,af,some (j,b)⟩ :: l) n E S Q:=by
  intro a w G U
  unfold wpListIn
  have O:=bE (ops:=ops) J (G.env.look Y)
  rw [if_neg (by simp only [Region.wanted,O]; subst D; cases b <;> simp)]
  exact ⟨fun _ _=>trivial,k _ _ (G.put W Z undef) U⟩
section
variable {x y z:Operand} {v u:Value}
theorem Ops.move (G:ev E x=some v) (D:Nat.blt d n.sz=true) (J:fresh E d=true) (k:Ops P ops l n ((d,v) :: E) S Q):Ops P ops (⟨some d,.move x,ty,pos,af,none⟩ :: l) n E S Q:=
  Ops.val rfl rfl (fun a w h _=>by simp [execOp,h.eval G]) D J k
theorem Ops.pickT {c:Bool} (O:ev E x=some (.bool c)) (D:c=true) (G:ev E y=some v) (J:Nat.blt d n.sz=true) (U:fresh E d=true) (k:Ops P ops l n ((d,v) :: E) S Q) :
    Ops P ops (⟨some d,.pick x y z,ty,pos,af,none⟩ :: l) n E S Q:=
  Ops.val rfl rfl (fun a w h _=>by subst D; simp [execOp,h.eval O,h.eval G,asBool]) J U k
theorem Ops.pickF {c:Bool} (O:ev E x=some (.bool c)) (D:c=false) (G:ev E z=some v) (J:Nat.blt d n.sz=true) (U:fresh E d=true) (k:Ops P ops l n ((d,v) :: E) S Q) :
    Ops P ops (⟨some d,.pick x y z,ty,pos,af,none⟩ :: l) n E S Q:=
  Ops.val rfl rfl (fun a w h _=>by subst D; simp [execOp,h.eval O,h.eval G,asBool]) J U k
theorem Ops.makeFunc {D:Fn} {first cap:Array Operand} {vs G:Array Value} (J:∀ a,Ok n E a→first.map a.eval=vs) (U:∀ a,Ok n E a→cap.map a.eval=G)
    (O:Nat.blt d n.sz=true) (V:fresh E d=true) (k:Ops P ops l n ((d,.func D vs G) :: E) S Q):Ops P ops (⟨some d,.makeFunc D first cap,ty,pos,af,none⟩ :: l) n E S Q:=
  Ops.val rfl rfl (fun a w h _=>by simp only [execOp,Instr.makeFunc,J a h,U a h]; rfl) O V k
end
section
variable {x y:Operand} {q:IntKind} {a b:Int} {T T':TypeId}
abbrev AJ (x:Int):Int:=IntKind.wrap .i64 x
def xR (q:IntKind) (a b:Int):Int:=q.wrap (BitVec.ofInt q.bits a &&& BitVec.ofInt q.bits b).toNat
def bor (q:IntKind) (a b:Int):Int:=q.wrap (BitVec.ofInt q.bits a ||| BitVec.ofInt q.bits b).toNat
def AiZ (q:IntKind) (a b:Int):Int:=q.wrap (BitVec.ofInt q.bits a ^^^ BitVec.ofInt q.bits b).toNat
def Ah8 (q:IntKind) (a b:Int):Int:=q.wrap (BitVec.ofInt q.bits a &&& ~~~ BitVec.ofInt q.bits b).toNat
def shl (q:IntKind) (a b:Int):Int:=q.wrap (a*2 ^ (min b.toNat q.bits))
def shr (q:IntKind) (a b:Int):Int:=a.fdiv (2 ^ (min b.toNat q.bits))
theorem Ops.int2 {h:BinOp} {v:Value} (V:ev E x=some (.int q a)) (U:ev E y=some (.int q b)) (O:∀ w,(binOp h T (.int q a) (.int q b)).run P w=.ok v w)
    (J:Nat.blt d n.sz=true) (W:fresh E d=true) (k:Ops P ops l n ((d,v) :: E) S Q):Ops P ops (⟨some d,.binOp h T x y T',ty,pos,af,none⟩ :: l) n E S Q:=
  Ops.val rfl rfl (fun c w D _=>by
    have G:(eqGuard h T x y (.int q a) (.int q b)).run P w=.ok () w:=by unfold eqGuard; cases h <;> rfl
    simp only [execOp,D.eval V,D.eval U,Sem.run_bind,G,Result.andThen_ok,O,Sem.run_pure]) J W k
theorem Ops.sub' (D:ev E x=some (.int q a)) (J:ev E y=some (.int q b)) (h:Nat.blt d n.sz=true) (G:fresh E d=true) (k:Ops P ops l n ((d,.int q (q.wrap (a - b))) :: E) S Q) :
    Ops P ops (⟨some d,.binOp .sub T x y T',ty,pos,af,none⟩ :: l) n E S Q:=Ops.int2 D J (fun w=>by simp [binOp,Op.intArith]) h G k
theorem Ops.quo (G:ev E x=some (.int q a)) (O:ev E y=some (.int q b)) (J:b≠0) (D:Nat.blt d n.sz=true) (h:fresh E d=true) (k:Ops P ops l n ((d,.int q (q.wrap (a.tdiv b))) :: E) S Q) :
    Ops P ops (⟨some d,.binOp .quo T x y T',ty,pos,af,none⟩ :: l) n E S Q:=Ops.int2 G O (fun w=>by simp [binOp,Op.intDiv,J]) D h k
theorem Ops.rem (G:ev E x=some (.int q a)) (O:ev E y=some (.int q b)) (J:b≠0) (D:Nat.blt d n.sz=true) (h:fresh E d=true) (k:Ops P ops l n ((d,.int q (a.tmod b)) :: E) S Q) :
    Ops P ops (⟨some d,.binOp .rem T x y T',ty,pos,af,none⟩ :: l) n E S Q:=Ops.int2 G O (fun w=>by simp [binOp,Op.intDiv,J]) D h k
theorem Ops.eq (D:ev E x=some (.int q a)) (J:ev E y=some (.int q b)) (h:Nat.blt d n.sz=true) (G:fresh E d=true) (k:Ops P ops l n ((d,.bool (a==b)) :: E) S Q) :
    Ops P ops (⟨some d,.binOp .eql T x y T',ty,pos,af,none⟩ :: l) n E S Q:=Ops.int2 D J (fun w=>by simp [binOp,Op.intCmp]) h G k
theorem Ops.lt (D:ev E x=some (.int q a)) (J:ev E y=some (.int q b)) (h:Nat.blt d n.sz=true) (G:fresh E d=true) (k:Ops P ops l n ((d,.bool (decide (a<b))) :: E) S Q) :
    Ops P ops (⟨some d,.binOp .lss T x y T',ty,pos,af,none⟩ :: l) n E S Q:=Ops.int2 D J (fun w=>by simp [binOp,Op.intCmp]) h G k
theorem Ops.ge (D:ev E x=some (.int q a)) (J:ev E y=some (.int q b)) (h:Nat.blt d n.sz=true) (G:fresh E d=true) (k:Ops P ops l n ((d,.bool (decide (b≤a))) :: E) S Q) :
    Ops P ops (⟨some d,.binOp .geq T x y T',ty,pos,af,none⟩ :: l) n E S Q:=Ops.int2 D J (fun w=>by simp [binOp,Op.intCmp]) h G k
theorem Ops.sft {h:BinOp} {D:IntKind} {v:Value} (Y:ev E x=some (.int q a)) (V:ev E y=some (.int D b)) (G:h=.shl∨h=.shr) (Z:∀ w,(binOp h T (.int q a) (.int D b)).run P w=.ok v w)
    (W:Nat.blt d n.sz=true) (O:fresh E d=true) (k:Ops P ops l n ((d,v) :: E) S Q):Ops P ops (⟨some d,.binOp h T x y T',ty,pos,af,none⟩ :: l) n E S Q:=
  Ops.val rfl rfl (fun c w J _=>by
    have U:(eqGuard h T x y (.int q a) (.int D b)).run P w=.ok () w:=by rcases G with rfl | rfl <;> rfl
    simp only [execOp,J.eval Y,J.eval V,Sem.run_bind,U,Result.andThen_ok,Z,Sem.run_pure]) W O k
theorem Ops.shl' {J:IntKind} (G:ev E x=some (.int q a)) (U:ev E y=some (.int J b)) (O:0≤b) (D:Nat.blt d n.sz=true) (h:fresh E d=true) (k:Ops P ops l n ((d,.int q (shl q a b)) :: E) S Q) :
    Ops P ops (⟨some d,.binOp .shl T x y T',ty,pos,af,none⟩ :: l) n E S Q:=Ops.sft G U (.inl rfl) (fun w=>by simp [binOp,Op.shift,Fw.shl,Int.not_lt.2 O]) D h k
theorem Ops.shr' {J:IntKind} (G:ev E x=some (.int q a)) (U:ev E y=some (.int J b)) (O:0≤b) (D:Nat.blt d n.sz=true) (h:fresh E d=true) (k:Ops P ops l n ((d,.int q (shr q a b)) :: E) S Q) :
    Ops P ops (⟨some d,.binOp .shr T x y T',ty,pos,af,none⟩ :: l) n E S Q:=Ops.sft G U (.inr rfl) (fun w=>by simp [binOp,Op.shift,Fw.shr,Int.not_lt.2 O]) D h k
theorem Ops.not {b:Bool} (G:ev E x=some (.bool b)) (D:Nat.blt d n.sz=true) (J:fresh E d=true) (k:Ops P ops l n ((d,.bool (!b)) :: E) S Q) :
    Ops P ops (⟨some d,.unOp .not T x,ty,pos,af,none⟩ :: l) n E S Q:=Ops.val rfl rfl (fun c w h _=>by simp [execOp,h.eval G,Op.unary]) D J k
theorem Ops.neg (G:ev E x=some (.int q a)) (D:Nat.blt d n.sz=true) (J:fresh E d=true) (k:Ops P ops l n ((d,.int q (q.wrap (0 - a))) :: E) S Q) :
    Ops P ops (⟨some d,.unOp .neg T x,ty,pos,af,none⟩ :: l) n E S Q:=Ops.val rfl rfl (fun c w h _=>by simp [execOp,h.eval G,Op.unary,Op.intArith]) D J k
theorem Ops.conv {h G:IntKind} (W:P.underlying T=some (.int G)) (D:P.underlying T'=some (.int h)) (U:ev E x=some (.int q a)) (O:Nat.blt d n.sz=true) (V:fresh E d=true)
    (k:Ops P ops l n ((d,.int h (h.wrap a)) :: E) S Q) :
    Ops P ops (⟨some d,.convert T T' x,ty,pos,af,none⟩ :: l) n E S Q:=
  Ops.val rfl rfl (fun c w J _=>by simp [execOp,J.eval U,convert,run_underlying W,run_underlying D,Conv.intToInt]) O V k
theorem fA {u v:Value} {r:Bool} (h:∀ e w,(Op.equalIn (e+1) T u v).run P w=.ok r w) (w:World):(Op.equal T u v).run P w=.ok r w:=h 9999 w
theorem Ops.eqV {u v:Value} {r:Bool} (U:ev E x=some u) (J:ev E y=some v) (V:∀ w,(Op.equal T u v).run P w=.ok r w)
    (G:∀ w,(eqGuard .eql T x y u v).run P w=.ok () w) (h:binOp .eql T u v=(do pure (.bool (←Op.equal T u v))))
    (O:Nat.blt d n.sz=true) (W:fresh E d=true) (k:Ops P ops l n ((d,.bool r) :: E) S Q):Ops P ops (⟨some d,.binOp .eql T x y T',ty,pos,af,none⟩ :: l) n E S Q:=
  Ops.val rfl rfl (fun c w D _=>by
    simp only [execOp,D.eval U,D.eval J,Sem.run_bind,G,Result.andThen_ok,h,V,Sem.run_pure]) O W k
theorem Ops.neV {u v:Value} {r:Bool} (U:ev E x=some u) (J:ev E y=some v) (V:∀ w,(Op.equal T u v).run P w=.ok r w)
    (G:∀ w,(eqGuard .neq T x y u v).run P w=.ok () w) (h:binOp .neq T u v=(do pure (.bool (!(←Op.equal T u v)))))
    (O:Nat.blt d n.sz=true) (W:fresh E d=true) (k:Ops P ops l n ((d,.bool (!r)) :: E) S Q):Ops P ops (⟨some d,.binOp .neq T x y T',ty,pos,af,none⟩ :: l) n E S Q:=
  Ops.val rfl rfl (fun c w D _=>by
    simp only [execOp,D.eval U,D.eval J,Sem.run_bind,G,Result.andThen_ok,h,V,Sem.run_pure]) O W k
theorem Ops.neB {a b:Bool} (O:P.underlying T=some .bool) (G:ev E x=some (.bool a)) (h:ev E y=some (.bool b)) (D:Nat.blt d n.sz=true) (J:fresh E d=true) (k:Ops P ops l n ((d,.bool (!(a==b))) :: E) S Q) :
    Ops P ops (⟨some d,.binOp .neq T x y T',ty,pos,af,none⟩ :: l) n E S Q:=
  Ops.neV G h (fA fun e w=>by simp [Op.equalIn,run_underlying O]) (fun _=>rfl) rfl D J k
theorem Ops.eqNilP {p:Option Addr} {t:TypeId} (O:P.underlying T=some (.pointer t)) (G:ev E x=some (.pointer p)) (h:ev E y=some (.pointer none)) (D:Nat.blt d n.sz=true) (J:fresh E d=true)
    (k:Ops P ops l n ((d,.bool p.isNone) :: E) S Q):Ops P ops (⟨some d,.binOp .eql T x y T',ty,pos,af,none⟩ :: l) n E S Q:=
  Ops.eqV G h (fA fun e w=>by cases p <;> simp [Op.equalIn,run_underlying O]) (fun _=>rfl) rfl D J k
theorem Ops.neNilP {p:Option Addr} {t:TypeId} (O:P.underlying T=some (.pointer t)) (G:ev E x=some (.pointer p)) (h:ev E y=some (.pointer none)) (D:Nat.blt d n.sz=true) (J:fresh E d=true)
    (k:Ops P ops l n ((d,.bool (!p.isNone)) :: E) S Q):Ops P ops (⟨some d,.binOp .neq T x y T',ty,pos,af,none⟩ :: l) n E S Q:=
  Ops.neV G h (fA fun e w=>by cases p <;> simp [Op.equalIn,run_underlying O]) (fun _=>rfl) rfl D J k
end
theorem Ops.minI {x y:Operand} {q:IntKind} {a b:Int} {h:Array TypeId} (O:ev E x=some (.int q a)) (G:ev E y=some (.int q b)) (J:Nat.blt d n.sz=true) (U:fresh E d=true)
    (k:Ops P ops l n ((d,.int q (if b<a then b else a)) :: E) S Q):Ops P ops (⟨some d,.call ⟨.builtin .min,#[x,y],h⟩,ty,pos,af,none⟩ :: l) n E S Q:=
  Ops.val rfl rfl (fun c w D _=>by simp [execOp,resolve,invoke,builtin,Builtin.min_,Builtin.min2,D.eval O,D.eval G]) J U k
theorem Ops.maxI {x y:Operand} {q:IntKind} {a b:Int} {h:Array TypeId} (O:ev E x=some (.int q a)) (G:ev E y=some (.int q b)) (J:Nat.blt d n.sz=true) (U:fresh E d=true)
    (k:Ops P ops l n ((d,.int q (if b > a then b else a)) :: E) S Q):Ops P ops (⟨some d,.call ⟨.builtin .max,#[x,y],h⟩,ty,pos,af,none⟩ :: l) n E S Q:=
  Ops.val rfl rfl (fun c w D _=>by simp [execOp,resolve,invoke,builtin,Builtin.max_,Builtin.max2,D.eval O,D.eval G]) J U k
theorem eqS {T:TypeId} {k:Nat} {D:Array Field} {xs ys:Array Value} {r:Bool} (G:P.underlying T=some (.struct D)) (hp:P.stoodInHeld T=false) (h:∀ w,(Op.eqFields k xs ys D.toList).run P w=.ok r w) (w:World) :
    (Op.equalIn (k+1) T (.agg xs) (.agg ys)).run P w=.ok r w:=by
  have e0:P.fieldsOf T=D:=by simp [Program.fieldsOf,G]
  rw [run_equalIn_struct w k T xs ys (by rw [G,e0]) hp,e0]; exact h w
theorem eqN {k:Nat} {xs ys:Array Value} (w:World):(Op.eqFields k xs ys []).run P w=.ok true w:=rfl
theorem eqC {k:Nat} {xs ys:Array Value} {f:Field} {D:List Field} {u v:Value} {b r:Bool} (U:f.name ≠ "_") (G:∀ w,(isAgg f.type).run P w=.ok false w) (O:xs[f.offset]? = some u) (J:ys[f.offset]? = some v)
    (he:∀ w,(Op.equalIn k f.type u v).run P w=.ok b w) (h:∀ w,(Op.eqFields k xs ys D).run P w=.ok r w) (w:World):(Op.eqFields k xs ys (f :: D)).run P w=.ok (b && r) w:=by
  simp only [Op.eqFields,U,ne_eq,not_false_eq_true,if_true,Sem.run_bind,part,G,Result.andThen_ok,Bool.false_eq_true,if_false,O,J,Sem.run_pure,he]
  cases b <;> simp [h]
theorem eqI {T:TypeId} {k:Nat} {q h:IntKind} {a b:Int} (D:P.underlying T=some (.int h)) (w:World):(Op.equalIn (k+1) T (.int q a) (.int q b)).run P w=.ok (a==b) w:=run_equalIn_int w k T q h a b D
end Go.Fw
