/- The engine. -/
import Derived.Test.YtbohadngdkjljaaGreatFwA
import Derived.Laws.StructEq
namespace Go.Fw
open Go Go.RowKit
variable {w0 w:World} {M:Nat→Prop} {I0 I:IH} {m:List HA}
variable {P:Program} {n:FrK} {E:DA} {S:World→Prop} {Q:Exit→Act→World→Prop} {ops:Array Oper} {l:List Oper}
variable {d ty:Nat} {pos:String} {af:Array Edge}
variable {q':IntKind}
theorem Ops.valx {o:Oper} (T:Value→World→Prop) (O:o.guard=none) (W:o.dst=some d)
  (Z:∀ a w,Ok n E a→S w→∃ v w',(execOp a.eval o).run P w=.ok (.value v) w'∧T v w')
  (G:Nat.blt d n.sz=true) (Y:fresh E d=true) (k:∀ v,Ops P ops l n ((d,v) :: E) (T v) Q):Ops P ops (o :: l) n E S Q:=by
 intro a w D U
 obtain ⟨v,w',h,J⟩:=Z a w D U
 refine wpListIn_plain O fun K V=>?_
 refine YT h (by simp) ?_
 simp only [Oper.uponIn,W]
 exact V _ _ (k v _ _ (D.put G Y v) J)
theorem Ops.val {o:Oper} {v:Value} (V:o.guard=none) (O:o.dst=some d)
  (W:∀ a w,Ok n E a→S w→(execOp a.eval o).run P w=.ok (.value v) w)
  (J:Nat.blt d n.sz=true) (U:fresh E d=true) (k:Ops P ops l n ((d,v) :: E) S Q):Ops P ops (o :: l) n E S Q:=by
 intro a w D h
 refine wpListIn_plain V fun K G=>?_
 refine YT (W a w D h) (by simp) ?_
 simp only [Oper.uponIn,O]
 exact G _ _ (k _ _ (D.put J U v) h)
theorem Ops.act {o:Oper} {D:World→Prop} (V:o.guard=none) (O:o.dst=none)
  (Y:∀ a w,Ok n E a→S w→∃ w',(execOp a.eval o).run P w=.ok .skip w'∧D w') (k:Ops P ops l n E D Q):Ops P ops (o :: l) n E S Q:=by
 intro a w G W
 obtain ⟨w',h,U⟩:=Y a w G W
 refine wpListIn_plain V fun K J=>?_
 refine YT h (by simp) ?_
 simp only [Oper.uponIn,O]
 exact J _ _ (k _ _ G U)
theorem Ops.val0 {o:Oper} {G:World→Prop} (O:o.guard=none) (W:o.dst=none)
  (Y:∀ a w,Ok n E a→S w→∃ v w',(execOp a.eval o).run P w=.ok (.value v) w'∧G w') (k:Ops P ops l n E G Q):Ops P ops (o :: l) n E S Q:=by
 intro a w D U
 obtain ⟨v,w',h,J⟩:=Y a w D U
 refine wpListIn_plain O fun K V=>?_
 refine YT h (by simp) ?_
 simp only [Oper.uponIn,W]
 exact V _ _ (k _ _ D J)
def eD (ops:Array Oper) (j:Nat):Option Nat:=(ops[j]?).bind (·.dst)
theorem XX {a:Act} {j s:Nat} {b:Bool} (D:eD ops j=some s) (h:a.tmps[s]? = some (.bool b)):yielded ops a.tmps j=some b:=by
 simp only [eD] at D
 simp [yielded,D,h]
theorem Ops.gyes {h:Option Nat} {D:Op} {j s:Nat} {b c:Bool} (W:eD ops j=some s) (U:look E s=some (.bool c)) (O:c=b)
  (k:Ops P ops (⟨h,D,ty,pos,af,none⟩ :: l) n E S Q):Ops P ops (⟨h,D,ty,pos,af,some (j,b)⟩ :: l) n E S Q:=by
 subst O
 intro a w G J
 have hk:=k a w G J
 unfold wpListIn at hk ⊢
 have V:=XX (ops:=ops) W (G.env.look U)
 rw [if_pos (by simp [Region.wanted])] at hk
 rw [if_pos (by simp [Region.wanted,V])]
 exact hk
theorem Ops.gno {h:Nat} {V:Op} {j s:Nat} {b c:Bool} (Z:eD ops j=some s) (Y:look E s=some (.bool c)) (D:c = !b)
  (J:Nat.blt h n.sz=true) (O:fresh E h=true) (k:Ops P ops l n ((h,undef) :: E) S Q):Ops P ops (⟨some h,V,ty,pos,af,some (j,b)⟩ :: l) n E S Q:=by
 intro a w G U
 unfold wpListIn
 have W:=XX (ops:=ops) Z (G.env.look Y)
 rw [if_neg (by simp only [Region.wanted,W]; subst D; cases b <;> simp)]
 exact ⟨fun _ _=>trivial,k _ _ (G.put J O undef) U⟩
section
variable {x y z:Operand} {v u:Value}
theorem Ops.move (G:ev E x=some v) (h:Nat.blt d n.sz=true) (D:fresh E d=true) (k:Ops P ops l n ((d,v) :: E) S Q):Ops P ops (⟨some d,.move x,ty,pos,af,none⟩ :: l) n E S Q:=
 Ops.val rfl rfl (fun a w J _=>by simp [execOp,J.eval G]) h D k
theorem Ops.pickT {c:Bool} (U:ev E x=some (.bool c)) (J:c=true) (O:ev E y=some v) (D:Nat.blt d n.sz=true) (G:fresh E d=true) (k:Ops P ops l n ((d,v) :: E) S Q) :
  Ops P ops (⟨some d,.pick x y z,ty,pos,af,none⟩ :: l) n E S Q:=
 Ops.val rfl rfl (fun a w h _=>by subst J; simp [execOp,h.eval U,h.eval O,asBool]) D G k
theorem Ops.pickF {c:Bool} (U:ev E x=some (.bool c)) (J:c=false) (O:ev E z=some v) (D:Nat.blt d n.sz=true) (G:fresh E d=true) (k:Ops P ops l n ((d,v) :: E) S Q) :
  Ops P ops (⟨some d,.pick x y z,ty,pos,af,none⟩ :: l) n E S Q:=
 Ops.val rfl rfl (fun a w h _=>by subst J; simp [execOp,h.eval U,h.eval O,asBool]) D G k
theorem Ops.nilCheckP {p:Addr} (G:ev E x=some (.pointer (some p))) (h:Nat.blt d n.sz=true) (D:fresh E d=true) (k:Ops P ops l n ((d,.pointer (some p)) :: E) S Q) :
  Ops P ops (⟨some d,.nilCheck x,ty,pos,af,none⟩ :: l) n E S Q:=
 Ops.val rfl rfl (fun a w J _=>by simp [execOp,J.eval G]) h D k
theorem Ops.makeFunc {h:Fn} {first cap:Array Operand} {vs D:Array Value} (V:∀ a,Ok n E a→first.map a.eval=vs) (J:∀ a,Ok n E a→cap.map a.eval=D)
  (O:Nat.blt d n.sz=true) (U:fresh E d=true) (k:Ops P ops l n ((d,.func h vs D) :: E) S Q):Ops P ops (⟨some d,.makeFunc h first cap,ty,pos,af,none⟩ :: l) n E S Q:=
 Ops.val rfl rfl (fun a w G _=>by simp only [execOp,Instr.makeFunc,V a G,J a G]; rfl) O U k
end
section
variable {x y:Operand} {q:IntKind} {a b:Int} {T T':TypeId}
abbrev A7 (x:Int):Int:=IntKind.wrap .i64 x
def mX (q:IntKind) (a b:Int):Int:=q.wrap (BitVec.ofInt q.bits a &&& BitVec.ofInt q.bits b).toNat
def bor (q:IntKind) (a b:Int):Int:=q.wrap (BitVec.ofInt q.bits a ||| BitVec.ofInt q.bits b).toNat
def YU (q:IntKind) (a b:Int):Int:=q.wrap (BitVec.ofInt q.bits a ^^^ BitVec.ofInt q.bits b).toNat
def Ac2 (q:IntKind) (a b:Int):Int:=q.wrap (BitVec.ofInt q.bits a &&& ~~~ BitVec.ofInt q.bits b).toNat
def shl (q:IntKind) (a b:Int):Int:=q.wrap (a*2 ^ (min b.toNat q.bits))
def shr (q:IntKind) (a b:Int):Int:=a.fdiv (2 ^ (min b.toNat q.bits))
theorem Ops.int2 {h:BinOp} {v:Value} (V:ev E x=some (.int q a)) (O:ev E y=some (.int q b)) (W:∀ w,(binOp h T (.int q a) (.int q b)).run P w=.ok v w)
  (G:Nat.blt d n.sz=true) (U:fresh E d=true) (k:Ops P ops l n ((d,v) :: E) S Q):Ops P ops (⟨some d,.binOp h T x y T',ty,pos,af,none⟩ :: l) n E S Q:=
 Ops.val rfl rfl (fun c w D _=>by
  have J:(eqGuard h T x y (.int q a) (.int q b)).run P w=.ok () w:=by unfold eqGuard; cases h <;> rfl
  simp only [execOp,D.eval V,D.eval O,Sem.run_bind,J,Result.andThen_ok,W,Sem.run_pure]) G U k
theorem Ops.sub' (h:ev E x=some (.int q a)) (G:ev E y=some (.int q b)) (D:Nat.blt d n.sz=true) (J:fresh E d=true) (k:Ops P ops l n ((d,.int q (q.wrap (a - b))) :: E) S Q) :
 Ops P ops (⟨some d,.binOp .sub T x y T',ty,pos,af,none⟩ :: l) n E S Q:=Ops.int2 h G (fun w=>by simp [binOp,Op.intArith]) D J k
theorem Ops.quo (h:ev E x=some (.int q a)) (G:ev E y=some (.int q b)) (O:b≠0) (D:Nat.blt d n.sz=true) (J:fresh E d=true) (k:Ops P ops l n ((d,.int q (q.wrap (a.tdiv b))) :: E) S Q) :
 Ops P ops (⟨some d,.binOp .quo T x y T',ty,pos,af,none⟩ :: l) n E S Q:=Ops.int2 h G (fun w=>by simp [binOp,Op.intDiv,O]) D J k
theorem Ops.rem (h:ev E x=some (.int q a)) (G:ev E y=some (.int q b)) (O:b≠0) (D:Nat.blt d n.sz=true) (J:fresh E d=true) (k:Ops P ops l n ((d,.int q (a.tmod b)) :: E) S Q) :
 Ops P ops (⟨some d,.binOp .rem T x y T',ty,pos,af,none⟩ :: l) n E S Q:=Ops.int2 h G (fun w=>by simp [binOp,Op.intDiv,O]) D J k
theorem Ops.eq (h:ev E x=some (.int q a)) (G:ev E y=some (.int q b)) (D:Nat.blt d n.sz=true) (J:fresh E d=true) (k:Ops P ops l n ((d,.bool (a==b)) :: E) S Q) :
 Ops P ops (⟨some d,.binOp .eql T x y T',ty,pos,af,none⟩ :: l) n E S Q:=Ops.int2 h G (fun w=>by simp [binOp,Op.intCmp]) D J k
theorem Ops.ne (h:ev E x=some (.int q a)) (G:ev E y=some (.int q b)) (D:Nat.blt d n.sz=true) (J:fresh E d=true) (k:Ops P ops l n ((d,.bool (a != b)) :: E) S Q) :
 Ops P ops (⟨some d,.binOp .neq T x y T',ty,pos,af,none⟩ :: l) n E S Q:=Ops.int2 h G (fun w=>by simp [binOp,Op.intCmp]) D J k
theorem Ops.lt (h:ev E x=some (.int q a)) (G:ev E y=some (.int q b)) (D:Nat.blt d n.sz=true) (J:fresh E d=true) (k:Ops P ops l n ((d,.bool (decide (a<b))) :: E) S Q) :
 Ops P ops (⟨some d,.binOp .lss T x y T',ty,pos,af,none⟩ :: l) n E S Q:=Ops.int2 h G (fun w=>by simp [binOp,Op.intCmp]) D J k
theorem Ops.gt (h:ev E x=some (.int q a)) (G:ev E y=some (.int q b)) (D:Nat.blt d n.sz=true) (J:fresh E d=true) (k:Ops P ops l n ((d,.bool (decide (b<a))) :: E) S Q) :
 Ops P ops (⟨some d,.binOp .gtr T x y T',ty,pos,af,none⟩ :: l) n E S Q:=Ops.int2 h G (fun w=>by simp [binOp,Op.intCmp]) D J k
theorem Ops.ge (h:ev E x=some (.int q a)) (G:ev E y=some (.int q b)) (D:Nat.blt d n.sz=true) (J:fresh E d=true) (k:Ops P ops l n ((d,.bool (decide (b≤a))) :: E) S Q) :
 Ops P ops (⟨some d,.binOp .geq T x y T',ty,pos,af,none⟩ :: l) n E S Q:=Ops.int2 h G (fun w=>by simp [binOp,Op.intCmp]) D J k
theorem Ops.sft {h:BinOp} {v:Value} (W:ev E x=some (.int q a)) (V:ev E y=some (.int q' b)) (D:h=.shl∨h=.shr) (Y:∀ w,(binOp h T (.int q a) (.int q' b)).run P w=.ok v w)
  (J:Nat.blt d n.sz=true) (O:fresh E d=true) (k:Ops P ops l n ((d,v) :: E) S Q):Ops P ops (⟨some d,.binOp h T x y T',ty,pos,af,none⟩ :: l) n E S Q:=
 Ops.val rfl rfl (fun c w G _=>by
  have U:(eqGuard h T x y (.int q a) (.int q' b)).run P w=.ok () w:=by rcases D with rfl | rfl <;> rfl
  simp only [execOp,G.eval W,G.eval V,Sem.run_bind,U,Result.andThen_ok,Y,Sem.run_pure]) J O k
theorem Ops.shl' (h:ev E x=some (.int q a)) (G:ev E y=some (.int q' b)) (O:0≤b) (D:Nat.blt d n.sz=true) (J:fresh E d=true) (k:Ops P ops l n ((d,.int q (shl q a b)) :: E) S Q) :
 Ops P ops (⟨some d,.binOp .shl T x y T',ty,pos,af,none⟩ :: l) n E S Q:=Ops.sft h G (.inl rfl) (fun w=>by simp [binOp,Op.shift,Fw.shl,Int.not_lt.2 O]) D J k
theorem Ops.shr' (h:ev E x=some (.int q a)) (G:ev E y=some (.int q' b)) (O:0≤b) (D:Nat.blt d n.sz=true) (J:fresh E d=true) (k:Ops P ops l n ((d,.int q (shr q a b)) :: E) S Q) :
 Ops P ops (⟨some d,.binOp .shr T x y T',ty,pos,af,none⟩ :: l) n E S Q:=Ops.sft h G (.inr rfl) (fun w=>by simp [binOp,Op.shift,Fw.shr,Int.not_lt.2 O]) D J k
theorem Ops.not {b:Bool} (G:ev E x=some (.bool b)) (h:Nat.blt d n.sz=true) (D:fresh E d=true) (k:Ops P ops l n ((d,.bool (!b)) :: E) S Q) :
 Ops P ops (⟨some d,.unOp .not T x,ty,pos,af,none⟩ :: l) n E S Q:=Ops.val rfl rfl (fun c w J _=>by simp [execOp,J.eval G,Op.unary]) h D k
theorem Ops.neg (G:ev E x=some (.int q a)) (h:Nat.blt d n.sz=true) (D:fresh E d=true) (k:Ops P ops l n ((d,.int q (q.wrap (0 - a))) :: E) S Q) :
 Ops P ops (⟨some d,.unOp .neg T x,ty,pos,af,none⟩ :: l) n E S Q:=Ops.val rfl rfl (fun c w J _=>by simp [execOp,J.eval G,Op.unary,Op.intArith]) h D k
theorem Ops.invS (J:q.signed=true) (G:ev E x=some (.int q a)) (h:Nat.blt d n.sz=true) (D:fresh E d=true) (k:Ops P ops l n ((d,.int q (YU q (-1) a)) :: E) S Q) :
 Ops P ops (⟨some d,.unOp .xor T x,ty,pos,af,none⟩ :: l) n E S Q:=Ops.val rfl rfl (fun c w O _=>by simp [execOp,O.eval G,Op.unary,Op.intBits,YU,J]) h D k
theorem Ops.invU {M:Int} (J:q.signed=false) (O:q.max=M) (G:ev E x=some (.int q a)) (h:Nat.blt d n.sz=true) (D:fresh E d=true) (k:Ops P ops l n ((d,.int q (YU q M a)) :: E) S Q) :
 Ops P ops (⟨some d,.unOp .xor T x,ty,pos,af,none⟩ :: l) n E S Q:=Ops.val rfl rfl (fun c w U _=>by subst O; simp [execOp,U.eval G,Op.unary,Op.intBits,YU,J]) h D k
theorem Ops.conv {D:IntKind} (O:P.underlying T=some (.int D)) (h:P.underlying T'=some (.int q')) (U:ev E x=some (.int q a)) (G:Nat.blt d n.sz=true) (J:fresh E d=true)
  (k:Ops P ops l n ((d,.int q' (q'.wrap a)) :: E) S Q) :
  Ops P ops (⟨some d,.convert T T' x,ty,pos,af,none⟩ :: l) n E S Q:=
 Ops.val rfl rfl (fun c w V _=>by simp [execOp,V.eval U,convert,run_underlying O,run_underlying h,Conv.intToInt]) G J k
theorem W8 {u v:Value} {r:Bool} (h:∀ e w,(Op.equalIn (e+1) T u v).run P w=.ok r w) (w:World):(Op.equal T u v).run P w=.ok r w:=h 9999 w
theorem Ops.eqV {u v:Value} {r:Bool} (U:ev E x=some u) (V:ev E y=some v) (W:∀ w,(Op.equal T u v).run P w=.ok r w)
  (O:∀ w,(eqGuard .eql T x y u v).run P w=.ok () w) (h:binOp .eql T u v=(do pure (.bool (←Op.equal T u v))))
  (G:Nat.blt d n.sz=true) (J:fresh E d=true) (k:Ops P ops l n ((d,.bool r) :: E) S Q):Ops P ops (⟨some d,.binOp .eql T x y T',ty,pos,af,none⟩ :: l) n E S Q:=
 Ops.val rfl rfl (fun c w D _=>by
  simp only [execOp,D.eval U,D.eval V,Sem.run_bind,O,Result.andThen_ok,h,W,Sem.run_pure]) G J k
theorem Ops.neV {u v:Value} {r:Bool} (U:ev E x=some u) (V:ev E y=some v) (W:∀ w,(Op.equal T u v).run P w=.ok r w)
  (O:∀ w,(eqGuard .neq T x y u v).run P w=.ok () w) (h:binOp .neq T u v=(do pure (.bool (!(←Op.equal T u v)))))
  (G:Nat.blt d n.sz=true) (J:fresh E d=true) (k:Ops P ops l n ((d,.bool (!r)) :: E) S Q):Ops P ops (⟨some d,.binOp .neq T x y T',ty,pos,af,none⟩ :: l) n E S Q:=
 Ops.val rfl rfl (fun c w D _=>by
  simp only [execOp,D.eval U,D.eval V,Sem.run_bind,O,Result.andThen_ok,h,W,Sem.run_pure]) G J k
theorem Ops.eqB {a b:Bool} (G:P.underlying T=some .bool) (J:ev E x=some (.bool a)) (O:ev E y=some (.bool b)) (h:Nat.blt d n.sz=true) (D:fresh E d=true) (k:Ops P ops l n ((d,.bool (a==b)) :: E) S Q) :
  Ops P ops (⟨some d,.binOp .eql T x y T',ty,pos,af,none⟩ :: l) n E S Q:=
 Ops.eqV J O (W8 fun e w=>by simp [Op.equalIn,run_underlying G]) (fun _=>rfl) rfl h D k
theorem Ops.neB {a b:Bool} (G:P.underlying T=some .bool) (J:ev E x=some (.bool a)) (O:ev E y=some (.bool b)) (h:Nat.blt d n.sz=true) (D:fresh E d=true) (k:Ops P ops l n ((d,.bool (!(a==b))) :: E) S Q) :
  Ops P ops (⟨some d,.binOp .neq T x y T',ty,pos,af,none⟩ :: l) n E S Q:=
 Ops.neV J O (W8 fun e w=>by simp [Op.equalIn,run_underlying G]) (fun _=>rfl) rfl h D k
theorem Ops.eqNilP {p:Option Addr} {t:TypeId} (G:P.underlying T=some (.pointer t)) (J:ev E x=some (.pointer p)) (O:ev E y=some (.pointer none)) (h:Nat.blt d n.sz=true) (D:fresh E d=true)
  (k:Ops P ops l n ((d,.bool p.isNone) :: E) S Q):Ops P ops (⟨some d,.binOp .eql T x y T',ty,pos,af,none⟩ :: l) n E S Q:=
 Ops.eqV J O (W8 fun e w=>by cases p <;> simp [Op.equalIn,run_underlying G]) (fun _=>rfl) rfl h D k
theorem Ops.neNilP {p:Option Addr} {t:TypeId} (G:P.underlying T=some (.pointer t)) (J:ev E x=some (.pointer p)) (O:ev E y=some (.pointer none)) (h:Nat.blt d n.sz=true) (D:fresh E d=true)
  (k:Ops P ops l n ((d,.bool (!p.isNone)) :: E) S Q):Ops P ops (⟨some d,.binOp .neq T x y T',ty,pos,af,none⟩ :: l) n E S Q:=
 Ops.neV J O (W8 fun e w=>by cases p <;> simp [Op.equalIn,run_underlying G]) (fun _=>rfl) rfl h D k
end
theorem Ops.minI {x y:Operand} {q:IntKind} {a b:Int} {h:Array TypeId} (O:ev E x=some (.int q a)) (U:ev E y=some (.int q b)) (G:Nat.blt d n.sz=true) (J:fresh E d=true)
  (k:Ops P ops l n ((d,.int q (if b<a then b else a)) :: E) S Q):Ops P ops (⟨some d,.call ⟨.builtin .min,#[x,y],h⟩,ty,pos,af,none⟩ :: l) n E S Q:=
 Ops.val rfl rfl (fun c w D _=>by simp [execOp,resolve,invoke,builtin,Builtin.min_,Builtin.min2,D.eval O,D.eval U]) G J k
theorem Ops.maxI {x y:Operand} {q:IntKind} {a b:Int} {h:Array TypeId} (O:ev E x=some (.int q a)) (U:ev E y=some (.int q b)) (G:Nat.blt d n.sz=true) (J:fresh E d=true)
  (k:Ops P ops l n ((d,.int q (if b > a then b else a)) :: E) S Q):Ops P ops (⟨some d,.call ⟨.builtin .max,#[x,y],h⟩,ty,pos,af,none⟩ :: l) n E S Q:=
 Ops.val rfl rfl (fun c w D _=>by simp [execOp,resolve,invoke,builtin,Builtin.max_,Builtin.max2,D.eval O,D.eval U]) G J k
theorem eqS {T:TypeId} {k:Nat} {D:Array Field} {xs ys:Array Value} {r:Bool} (G:P.underlying T=some (.struct D)) (hp:P.stoodInHeld T=false) (h:∀ w,(Op.eqFields k xs ys D.toList).run P w=.ok r w) (w:World) :
  (Op.equalIn (k+1) T (.agg xs) (.agg ys)).run P w=.ok r w:=by
 have e0:P.fieldsOf T=D:=by simp [Program.fieldsOf,G]
 rw [run_equalIn_struct w k T xs ys (by rw [G,e0]) hp,e0]; exact h w
theorem eqN {k:Nat} {xs ys:Array Value} (w:World):(Op.eqFields k xs ys []).run P w=.ok true w:=rfl
theorem eqC {k:Nat} {xs ys:Array Value} {f:Field} {D:List Field} {u v:Value} {b r:Bool} (G:f.name ≠ "_") (J:∀ w,(isAgg f.type).run P w=.ok false w) (O:xs[f.offset]? = some u) (U:ys[f.offset]? = some v)
  (he:∀ w,(Op.equalIn k f.type u v).run P w=.ok b w) (h:∀ w,(Op.eqFields k xs ys D).run P w=.ok r w) (w:World):(Op.eqFields k xs ys (f :: D)).run P w=.ok (b && r) w:=by
 simp only [Op.eqFields,G,ne_eq,not_false_eq_true,if_true,Sem.run_bind,part,J,Result.andThen_ok,Bool.false_eq_true,if_false,O,U,Sem.run_pure,he]
 cases b <;> simp [h]
theorem eqA {k s:Nat} {xs ys:Array Value} {f:Field} {D:List Field} {b r:Bool} (G:f.name ≠ "_") (J:∀ w,(isAgg f.type).run P w=.ok true w) (O:∀ w,(sizeOf f.type).run P w=.ok s w)
  (he:∀ w,(Op.equalIn k f.type (.agg (xs.extract f.offset (f.offset+s))) (.agg (ys.extract f.offset (f.offset+s)))).run P w=.ok b w) (h:∀ w,(Op.eqFields k xs ys D).run P w=.ok r w) (w:World) :
  (Op.eqFields k xs ys (f :: D)).run P w=.ok (b && r) w:=by
 simp only [Op.eqFields,G,ne_eq,not_false_eq_true,if_true,Sem.run_bind,part,J,Result.andThen_ok,O,Sem.run_pure,he]
 cases b <;> simp [h]
theorem eqI {T:TypeId} {k:Nat} {q:IntKind} {a b:Int} (h:P.underlying T=some (.int q')) (w:World):(Op.equalIn (k+1) T (.int q a) (.int q b)).run P w=.ok (a==b) w:=run_equalIn_int w k T q q' a b h
end Go.Fw
