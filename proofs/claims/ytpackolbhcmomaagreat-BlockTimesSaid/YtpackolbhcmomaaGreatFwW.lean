/- The engine, part W: own slices of own slices. -/
import Derived.Test.YtpackolbhcmomaaGreatFwV
namespace Go.Fw
open Go Go.RowKit
variable {w0 w:World} {M:Nat→Prop} {I0 I:IH} {m m':List HA}
variable {P:Program} {n:FrK} {E:Env} {S:World→Prop} {Q:Exit→Act→World→Prop} {ops:Array Oper} {l:List Oper}
variable {d ty:Nat} {pos:String} {af:Array Edge} {T e:TypeId} {x y:Operand} {α:Type} {El:Elem α} {a:Option Addr} {cap:Nat} {xss:List (List α)}
abbrev Hd:=Option Addr×Nat×Nat
def heads (hs:List (Option Addr×Nat)) (xss:List (List α)):List Hd:=List.zipWith (fun p xs=>(p.1,xs.length,p.2)) hs xss
theorem Ops.lookN {κ:Type} [DecidableEq κ] {kt et:TypeId} {ke:κ→Value} {k:κ} {zv:Value} {S:World→Prop} (K:KeyOk P kt ke) (hT:P.underlying T=some (.map kt et)) (hz:∀ w,(zeroValue et).run P w=.ok zv w)
    (hx:ev E x=some (.map none)) (hy:ev E y=some (ke k)) (hb:Nat.blt d n.sz=true) (hf:fresh E d=true) (g:Ops P ops l n ((d,zv) :: E) S Q):Ops P ops (⟨some d,.lookup T x y false,ty,pos,af,none⟩ :: l) n E S Q:=
  Ops.val rfl rfl (fun c w ho _=>by
    have hfd:=K.find k [] [] w rfl
    have e:(Instr.findKey kt (ke k) []).run P w=.ok none w:=by rw [hfd]; rfl
    simp [execOp,ho.eval hx,ho.eval hy,Instr.lookup,run_underlying hT,K.chk,e,hz]) hb hf g
end Go.Fw
