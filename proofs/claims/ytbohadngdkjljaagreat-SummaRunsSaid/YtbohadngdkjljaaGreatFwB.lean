/- The engine. -/
import Derived.Test.YtbohadngdkjljaaGreatFwA
import Derived.Laws.StructEq
namespace Go.Fw
open Go Go.RowKit
variable {w0 w:World} {M:Nat→Prop} {I0 I:IH} {m:List HA}
variable {P:Program} {n:FrK} {E:D7} {S:World→Prop} {Q:Exit→Act→World→Prop} {ops:Array Oper} {l:List Oper}
variable {d ty:Nat} {pos:String} {af:Array Edge}
variable {q':IntKind}
theorem Ops.valx {o:Oper} (T:Value→World→Prop) (O:o.guard=none) (V:o.dst=some d)
  (Z:∀ a w,Ok n E a→S w→∃ v w',(execOp a.eval o).run P w=.ok (.value v) w'∧T v w')
  (G:Nat.blt d n.sz=true) (W:fresh E d=true) (k:∀ v,Ops P ops l n ((d,v) :: E) (T v) Q):Ops P ops (o :: l) n E S Q:=by
 intro a w D U
 obtain ⟨v,w',h,J⟩:=Z a w D U
 refine wpListIn_plain O fun K Y=>?_
 refine Z3 h (by simp) ?_
 simp only [Oper.uponIn,V]
 exact Y _ _ (k v _ _ (D.put G W v) J)
theorem Ops.val {o:Oper} {v:Value} (U:o.guard=none) (G:o.dst=some d)
  (W:∀ a w,Ok n E a→S w→(execOp a.eval o).run P w=.ok (.value v) w)
  (J:Nat.blt d n.sz=true) (O:fresh E d=true) (k:Ops P ops l n ((d,v) :: E) S Q):Ops P ops (o :: l) n E S Q:=by
 intro a w h D
 refine wpListIn_plain U fun K V=>?_
 refine Z3 (W a w h D) (by simp) ?_
 simp only [Oper.uponIn,G]
 exact V _ _ (k _ _ (h.put J O v) D)
theorem Ops.act {o:Oper} {G:World→Prop} (O:o.guard=none) (J:o.dst=none)
  (W:∀ a w,Ok n E a→S w→∃ w',(execOp a.eval o).run P w=.ok .skip w'∧G w') (k:Ops P ops l n E G Q):Ops P ops (o :: l) n E S Q:=by
 intro a w D Y
 obtain ⟨w',h,V⟩:=W a w D Y
 refine wpListIn_plain O fun K U=>?_
 refine Z3 h (by simp) ?_
 simp only [Oper.uponIn,J]
 exact U _ _ (k _ _ D V)
theorem Ops.val0 {o:Oper} {D:World→Prop} (O:o.guard=none) (V:o.dst=none)
  (Y:∀ a w,Ok n E a→S w→∃ v w',(execOp a.eval o).run P w=.ok (.value v) w'∧D w') (k:Ops P ops l n E D Q):Ops P ops (o :: l) n E S Q:=by
 intro a w G U
 obtain ⟨v,w',h,J⟩:=Y a w G U
 refine wpListIn_plain O fun K W=>?_
 refine Z3 h (by simp) ?_
 simp only [Oper.uponIn,V]
 exact W _ _ (k _ _ G J)
def eQ (ops:Array Oper) (j:Nat):Option Nat:=(ops[j]?).bind (·.dst)
theorem YA {a:Act} {j s:Nat} {b:Bool} (D:eQ ops j=some s) (h:a.tmps[s]? = some (.bool b)):yielded ops a.tmps j=some b:=by
 simp only [eQ] at D
 simp [yielded,D,h]
theorem Ops.gyes {h:Option Nat} {G:Op} {j s:Nat} {b c:Bool} (V:eQ ops j=some s) (W:look E s=some (.bool c)) (U:c=b)
  (k:Ops P ops (⟨h,G,ty,pos,af,none⟩ :: l) n E S Q):Ops P ops (⟨h,G,ty,pos,af,some (j,b)⟩ :: l) n E S Q:=by
 subst U
 intro a w D J
 have hk:=k a w D J
 unfold wpListIn at hk ⊢
 have O:=YA (ops:=ops) V (D.env.look W)
 rw [if_pos (by simp [Region.wanted])] at hk
 rw [if_pos (by simp [Region.wanted,O])]
 exact hk
theorem Ops.gno {h:Nat} {Y:Op} {j s:Nat} {b c:Bool} (V:eQ ops j=some s) (Z:look E s=some (.bool c)) (D:c = !b)
  (U:Nat.blt h n.sz=true) (W:fresh E h=true) (k:Ops P ops l n ((h,undef) :: E) S Q):Ops P ops (⟨some h,Y,ty,pos,af,some (j,b)⟩ :: l) n E S Q:=by
 intro a w G J
 unfold wpListIn
 have O:=YA (ops:=ops) V (G.env.look Z)
 rw [if_neg (by simp only [Region.wanted,O]; subst D; cases b <;> simp)]
 exact ⟨fun _ _=>trivial,k _ _ (G.put U W undef) J⟩
section
variable {x y z:Operand} {v u:Value}
theorem Ops.move (J:ev E x=some v) (D:Nat.blt d n.sz=true) (G:fresh E d=true) (k:Ops P ops l n ((d,v) :: E) S Q):Ops P ops (⟨some d,.move x,ty,pos,af,none⟩ :: l) n E S Q:=
 Ops.val rfl rfl (fun a w h _=>by simp [execOp,h.eval J]) D G k
theorem Ops.pickT {c:Bool} (U:ev E x=some (.bool c)) (J:c=true) (D:ev E y=some v) (G:Nat.blt d n.sz=true) (O:fresh E d=true) (k:Ops P ops l n ((d,v) :: E) S Q) :
  Ops P ops (⟨some d,.pick x y z,ty,pos,af,none⟩ :: l) n E S Q:=
 Ops.val rfl rfl (fun a w h _=>by subst J; simp [execOp,h.eval U,h.eval D,asBool]) G O k
theorem Ops.pickF {c:Bool} (U:ev E x=some (.bool c)) (J:c=false) (D:ev E z=some v) (G:Nat.blt d n.sz=true) (O:fresh E d=true) (k:Ops P ops l n ((d,v) :: E) S Q) :
  Ops P ops (⟨some d,.pick x y z,ty,pos,af,none⟩ :: l) n E S Q:=
 Ops.val rfl rfl (fun a w h _=>by subst J; simp [execOp,h.eval U,h.eval D,asBool]) G O k
theorem Ops.makeFunc {D:Fn} {first cap:Array Operand} {vs G:Array Value} (V:∀ a,Ok n E a→first.map a.eval=vs) (U:∀ a,Ok n E a→cap.map a.eval=G)
  (J:Nat.blt d n.sz=true) (O:fresh E d=true) (k:Ops P ops l n ((d,.func D vs G) :: E) S Q):Ops P ops (⟨some d,.makeFunc D first cap,ty,pos,af,none⟩ :: l) n E S Q:=
 Ops.val rfl rfl (fun a w h _=>by simp only [execOp,Instr.makeFunc,V a h,U a h]; rfl) J O k
end
section
variable {x y:Operand} {q:IntKind} {a b:Int} {T T':TypeId}
abbrev A7 (x:Int):Int:=IntKind.wrap .i64 x
def nC (q:IntKind) (a b:Int):Int:=q.wrap (BitVec.ofInt q.bits a &&& BitVec.ofInt q.bits b).toNat
def bor (q:IntKind) (a b:Int):Int:=q.wrap (BitVec.ofInt q.bits a ||| BitVec.ofInt q.bits b).toNat
def Z4 (q:IntKind) (a b:Int):Int:=q.wrap (BitVec.ofInt q.bits a ^^^ BitVec.ofInt q.bits b).toNat
def AbZ (q:IntKind) (a b:Int):Int:=q.wrap (BitVec.ofInt q.bits a &&& ~~~ BitVec.ofInt q.bits b).toNat
def shl (q:IntKind) (a b:Int):Int:=q.wrap (a*2 ^ (min b.toNat q.bits))
def shr (q:IntKind) (a b:Int):Int:=a.fdiv (2 ^ (min b.toNat q.bits))
theorem Ops.int2 {h:BinOp} {v:Value} (V:ev E x=some (.int q a)) (G:ev E y=some (.int q b)) (W:∀ w,(binOp h T (.int q a) (.int q b)).run P w=.ok v w)
  (J:Nat.blt d n.sz=true) (U:fresh E d=true) (k:Ops P ops l n ((d,v) :: E) S Q):Ops P ops (⟨some d,.binOp h T x y T',ty,pos,af,none⟩ :: l) n E S Q:=
 Ops.val rfl rfl (fun c w D _=>by
  have O:(eqGuard h T x y (.int q a) (.int q b)).run P w=.ok () w:=by unfold eqGuard; cases h <;> rfl
  simp only [execOp,D.eval V,D.eval G,Sem.run_bind,O,Result.andThen_ok,W,Sem.run_pure]) J U k
theorem Ops.sub' (h:ev E x=some (.int q a)) (D:ev E y=some (.int q b)) (G:Nat.blt d n.sz=true) (J:fresh E d=true) (k:Ops P ops l n ((d,.int q (q.wrap (a - b))) :: E) S Q) :
 Ops P ops (⟨some d,.binOp .sub T x y T',ty,pos,af,none⟩ :: l) n E S Q:=Ops.int2 h D (fun w=>by simp [binOp,Op.intArith]) G J k
theorem Ops.quo (h:ev E x=some (.int q a)) (D:ev E y=some (.int q b)) (J:b≠0) (G:Nat.blt d n.sz=true) (O:fresh E d=true) (k:Ops P ops l n ((d,.int q (q.wrap (a.tdiv b))) :: E) S Q) :
 Ops P ops (⟨some d,.binOp .quo T x y T',ty,pos,af,none⟩ :: l) n E S Q:=Ops.int2 h D (fun w=>by simp [binOp,Op.intDiv,J]) G O k
theorem Ops.rem (h:ev E x=some (.int q a)) (D:ev E y=some (.int q b)) (J:b≠0) (G:Nat.blt d n.sz=true) (O:fresh E d=true) (k:Ops P ops l n ((d,.int q (a.tmod b)) :: E) S Q) :
 Ops P ops (⟨some d,.binOp .rem T x y T',ty,pos,af,none⟩ :: l) n E S Q:=Ops.int2 h D (fun w=>by simp [binOp,Op.intDiv,J]) G O k
theorem Ops.eq (h:ev E x=some (.int q a)) (D:ev E y=some (.int q b)) (G:Nat.blt d n.sz=true) (J:fresh E d=true) (k:Ops P ops l n ((d,.bool (a==b)) :: E) S Q) :
 Ops P ops (⟨some d,.binOp .eql T x y T',ty,pos,af,none⟩ :: l) n E S Q:=Ops.int2 h D (fun w=>by simp [binOp,Op.intCmp]) G J k
theorem Ops.lt (h:ev E x=some (.int q a)) (D:ev E y=some (.int q b)) (G:Nat.blt d n.sz=true) (J:fresh E d=true) (k:Ops P ops l n ((d,.bool (decide (a<b))) :: E) S Q) :
 Ops P ops (⟨some d,.binOp .lss T x y T',ty,pos,af,none⟩ :: l) n E S Q:=Ops.int2 h D (fun w=>by simp [binOp,Op.intCmp]) G J k
theorem Ops.gt (h:ev E x=some (.int q a)) (D:ev E y=some (.int q b)) (G:Nat.blt d n.sz=true) (J:fresh E d=true) (k:Ops P ops l n ((d,.bool (decide (b<a))) :: E) S Q) :
 Ops P ops (⟨some d,.binOp .gtr T x y T',ty,pos,af,none⟩ :: l) n E S Q:=Ops.int2 h D (fun w=>by simp [binOp,Op.intCmp]) G J k
theorem Ops.ge (h:ev E x=some (.int q a)) (D:ev E y=some (.int q b)) (G:Nat.blt d n.sz=true) (J:fresh E d=true) (k:Ops P ops l n ((d,.bool (decide (b≤a))) :: E) S Q) :
 Ops P ops (⟨some d,.binOp .geq T x y T',ty,pos,af,none⟩ :: l) n E S Q:=Ops.int2 h D (fun w=>by simp [binOp,Op.intCmp]) G J k
theorem Ops.sft {h:BinOp} {v:Value} (W:ev E x=some (.int q a)) (J:ev E y=some (.int q' b)) (D:h=.shl∨h=.shr) (Y:∀ w,(binOp h T (.int q a) (.int q' b)).run P w=.ok v w)
  (O:Nat.blt d n.sz=true) (U:fresh E d=true) (k:Ops P ops l n ((d,v) :: E) S Q):Ops P ops (⟨some d,.binOp h T x y T',ty,pos,af,none⟩ :: l) n E S Q:=
 Ops.val rfl rfl (fun c w G _=>by
  have V:(eqGuard h T x y (.int q a) (.int q' b)).run P w=.ok () w:=by rcases D with rfl | rfl <;> rfl
  simp only [execOp,G.eval W,G.eval J,Sem.run_bind,V,Result.andThen_ok,Y,Sem.run_pure]) O U k
theorem Ops.shl' (h:ev E x=some (.int q a)) (D:ev E y=some (.int q' b)) (J:0≤b) (G:Nat.blt d n.sz=true) (O:fresh E d=true) (k:Ops P ops l n ((d,.int q (shl q a b)) :: E) S Q) :
 Ops P ops (⟨some d,.binOp .shl T x y T',ty,pos,af,none⟩ :: l) n E S Q:=Ops.sft h D (.inl rfl) (fun w=>by simp [binOp,Op.shift,Fw.shl,Int.not_lt.2 J]) G O k
theorem Ops.shr' (h:ev E x=some (.int q a)) (D:ev E y=some (.int q' b)) (J:0≤b) (G:Nat.blt d n.sz=true) (O:fresh E d=true) (k:Ops P ops l n ((d,.int q (shr q a b)) :: E) S Q) :
 Ops P ops (⟨some d,.binOp .shr T x y T',ty,pos,af,none⟩ :: l) n E S Q:=Ops.sft h D (.inr rfl) (fun w=>by simp [binOp,Op.shift,Fw.shr,Int.not_lt.2 J]) G O k
theorem Ops.not {b:Bool} (J:ev E x=some (.bool b)) (D:Nat.blt d n.sz=true) (G:fresh E d=true) (k:Ops P ops l n ((d,.bool (!b)) :: E) S Q) :
 Ops P ops (⟨some d,.unOp .not T x,ty,pos,af,none⟩ :: l) n E S Q:=Ops.val rfl rfl (fun c w h _=>by simp [execOp,h.eval J,Op.unary]) D G k
theorem Ops.neg (J:ev E x=some (.int q a)) (D:Nat.blt d n.sz=true) (G:fresh E d=true) (k:Ops P ops l n ((d,.int q (q.wrap (0 - a))) :: E) S Q) :
 Ops P ops (⟨some d,.unOp .neg T x,ty,pos,af,none⟩ :: l) n E S Q:=Ops.val rfl rfl (fun c w h _=>by simp [execOp,h.eval J,Op.unary,Op.intArith]) D G k
theorem Ops.invS (J:q.signed=true) (O:ev E x=some (.int q a)) (D:Nat.blt d n.sz=true) (G:fresh E d=true) (k:Ops P ops l n ((d,.int q (Z4 q (-1) a)) :: E) S Q) :
 Ops P ops (⟨some d,.unOp .xor T x,ty,pos,af,none⟩ :: l) n E S Q:=Ops.val rfl rfl (fun c w h _=>by simp [execOp,h.eval O,Op.unary,Op.intBits,Z4,J]) D G k
theorem Ops.invU {M:Int} (O:q.signed=false) (h:q.max=M) (U:ev E x=some (.int q a)) (G:Nat.blt d n.sz=true) (J:fresh E d=true) (k:Ops P ops l n ((d,.int q (Z4 q M a)) :: E) S Q) :
 Ops P ops (⟨some d,.unOp .xor T x,ty,pos,af,none⟩ :: l) n E S Q:=Ops.val rfl rfl (fun c w D _=>by subst h; simp [execOp,D.eval U,Op.unary,Op.intBits,Z4,O]) G J k
theorem Ops.conv {D:IntKind} (V:P.underlying T=some (.int D)) (h:P.underlying T'=some (.int q')) (U:ev E x=some (.int q a)) (J:Nat.blt d n.sz=true) (O:fresh E d=true)
  (k:Ops P ops l n ((d,.int q' (q'.wrap a)) :: E) S Q) :
  Ops P ops (⟨some d,.convert T T' x,ty,pos,af,none⟩ :: l) n E S Q:=
 Ops.val rfl rfl (fun c w G _=>by simp [execOp,G.eval U,convert,run_underlying V,run_underlying h,Conv.intToInt]) J O k
theorem WK {u v:Value} {r:Bool} (h:∀ e w,(Op.equalIn (e+1) T u v).run P w=.ok r w) (w:World):(Op.equal T u v).run P w=.ok r w:=h 9999 w
theorem Ops.eqV {u v:Value} {r:Bool} (V:ev E x=some u) (G:ev E y=some v) (O:∀ w,(Op.equal T u v).run P w=.ok r w)
  (W:∀ w,(eqGuard .eql T x y u v).run P w=.ok () w) (h:binOp .eql T u v=(do pure (.bool (←Op.equal T u v))))
  (J:Nat.blt d n.sz=true) (U:fresh E d=true) (k:Ops P ops l n ((d,.bool r) :: E) S Q):Ops P ops (⟨some d,.binOp .eql T x y T',ty,pos,af,none⟩ :: l) n E S Q:=
 Ops.val rfl rfl (fun c w D _=>by
  simp only [execOp,D.eval V,D.eval G,Sem.run_bind,W,Result.andThen_ok,h,O,Sem.run_pure]) J U k
theorem Ops.neV {u v:Value} {r:Bool} (V:ev E x=some u) (G:ev E y=some v) (O:∀ w,(Op.equal T u v).run P w=.ok r w)
  (W:∀ w,(eqGuard .neq T x y u v).run P w=.ok () w) (h:binOp .neq T u v=(do pure (.bool (!(←Op.equal T u v)))))
  (J:Nat.blt d n.sz=true) (U:fresh E d=true) (k:Ops P ops l n ((d,.bool (!r)) :: E) S Q):Ops P ops (⟨some d,.binOp .neq T x y T',ty,pos,af,none⟩ :: l) n E S Q:=
 Ops.val rfl rfl (fun c w D _=>by
  simp only [execOp,D.eval V,D.eval G,Sem.run_bind,W,Result.andThen_ok,h,O,Sem.run_pure]) J U k
theorem Ops.eqB {a b:Bool} (O:P.underlying T=some .bool) (J:ev E x=some (.bool a)) (h:ev E y=some (.bool b)) (D:Nat.blt d n.sz=true) (G:fresh E d=true) (k:Ops P ops l n ((d,.bool (a==b)) :: E) S Q) :
  Ops P ops (⟨some d,.binOp .eql T x y T',ty,pos,af,none⟩ :: l) n E S Q:=
 Ops.eqV J h (WK fun e w=>by simp [Op.equalIn,run_underlying O]) (fun _=>rfl) rfl D G k
theorem Ops.neB {a b:Bool} (O:P.underlying T=some .bool) (J:ev E x=some (.bool a)) (h:ev E y=some (.bool b)) (D:Nat.blt d n.sz=true) (G:fresh E d=true) (k:Ops P ops l n ((d,.bool (!(a==b))) :: E) S Q) :
  Ops P ops (⟨some d,.binOp .neq T x y T',ty,pos,af,none⟩ :: l) n E S Q:=
 Ops.neV J h (WK fun e w=>by simp [Op.equalIn,run_underlying O]) (fun _=>rfl) rfl D G k
theorem Ops.eqNilP {p:Option Addr} {t:TypeId} (O:P.underlying T=some (.pointer t)) (J:ev E x=some (.pointer p)) (h:ev E y=some (.pointer none)) (D:Nat.blt d n.sz=true) (G:fresh E d=true)
  (k:Ops P ops l n ((d,.bool p.isNone) :: E) S Q):Ops P ops (⟨some d,.binOp .eql T x y T',ty,pos,af,none⟩ :: l) n E S Q:=
 Ops.eqV J h (WK fun e w=>by cases p <;> simp [Op.equalIn,run_underlying O]) (fun _=>rfl) rfl D G k
theorem Ops.neNilP {p:Option Addr} {t:TypeId} (O:P.underlying T=some (.pointer t)) (J:ev E x=some (.pointer p)) (h:ev E y=some (.pointer none)) (D:Nat.blt d n.sz=true) (G:fresh E d=true)
  (k:Ops P ops l n ((d,.bool (!p.isNone)) :: E) S Q):Ops P ops (⟨some d,.binOp .neq T x y T',ty,pos,af,none⟩ :: l) n E S Q:=
 Ops.neV J h (WK fun e w=>by cases p <;> simp [Op.equalIn,run_underlying O]) (fun _=>rfl) rfl D G k
end
theorem Ops.minI {x y:Operand} {q:IntKind} {a b:Int} {h:Array TypeId} (U:ev E x=some (.int q a)) (G:ev E y=some (.int q b)) (J:Nat.blt d n.sz=true) (O:fresh E d=true)
  (k:Ops P ops l n ((d,.int q (if b<a then b else a)) :: E) S Q):Ops P ops (⟨some d,.call ⟨.builtin .min,#[x,y],h⟩,ty,pos,af,none⟩ :: l) n E S Q:=
 Ops.val rfl rfl (fun c w D _=>by simp [execOp,resolve,invoke,builtin,Builtin.min_,Builtin.min2,D.eval U,D.eval G]) J O k
theorem Ops.maxI {x y:Operand} {q:IntKind} {a b:Int} {h:Array TypeId} (U:ev E x=some (.int q a)) (G:ev E y=some (.int q b)) (J:Nat.blt d n.sz=true) (O:fresh E d=true)
  (k:Ops P ops l n ((d,.int q (if b > a then b else a)) :: E) S Q):Ops P ops (⟨some d,.call ⟨.builtin .max,#[x,y],h⟩,ty,pos,af,none⟩ :: l) n E S Q:=
 Ops.val rfl rfl (fun c w D _=>by simp [execOp,resolve,invoke,builtin,Builtin.max_,Builtin.max2,D.eval U,D.eval G]) J O k
theorem eqS {T:TypeId} {k:Nat} {D:Array Field} {xs ys:Array Value} {r:Bool} (G:P.underlying T=some (.struct D)) (hp:P.stoodInHeld T=false) (h:∀ w,(Op.eqFields k xs ys D.toList).run P w=.ok r w) (w:World) :
  (Op.equalIn (k+1) T (.agg xs) (.agg ys)).run P w=.ok r w:=by
 have e0:P.fieldsOf T=D:=by simp [Program.fieldsOf,G]
 rw [run_equalIn_struct w k T xs ys (by rw [G,e0]) hp,e0]; exact h w
theorem eqN {k:Nat} {xs ys:Array Value} (w:World):(Op.eqFields k xs ys []).run P w=.ok true w:=rfl
theorem eqC {k:Nat} {xs ys:Array Value} {f:Field} {D:List Field} {u v:Value} {b r:Bool} (O:f.name ≠ "_") (J:∀ w,(isAgg f.type).run P w=.ok false w) (U:xs[f.offset]? = some u) (G:ys[f.offset]? = some v)
  (he:∀ w,(Op.equalIn k f.type u v).run P w=.ok b w) (h:∀ w,(Op.eqFields k xs ys D).run P w=.ok r w) (w:World):(Op.eqFields k xs ys (f :: D)).run P w=.ok (b && r) w:=by
 simp only [Op.eqFields,O,ne_eq,not_false_eq_true,if_true,Sem.run_bind,part,J,Result.andThen_ok,Bool.false_eq_true,if_false,U,G,Sem.run_pure,he]
 cases b <;> simp [h]
theorem eqI {T:TypeId} {k:Nat} {q:IntKind} {a b:Int} (h:P.underlying T=some (.int q')) (w:World):(Op.equalIn (k+1) T (.int q a) (.int q b)).run P w=.ok (a==b) w:=run_equalIn_int w k T q q' a b h
end Go.Fw
