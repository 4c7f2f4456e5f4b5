/- The engine, part W: own slices of own slices. -/
import Derived.Test.YtpackolbhcmomaaGreatFwV
namespace Go.Fw
open Go Go.RowKit
variable {w0 w:World} {M:Nat→Prop} {I0 I:IH} {m m':List HA}
variable {P:Program} {n:FrK} {E:Env} {S:World→Prop} {Q:Exit→Act→World→Prop} {ops:Array Oper} {l:List Oper}
variable {d ty:Nat} {pos:String} {af:Array Edge} {T e:TypeId} {x y:Operand} {α:Type} {El:Elem α} {a:Option Addr} {cap:Nat} {xss:List (List α)}
abbrev Hd:=Option Addr×Nat×Nat
def heads (hs:List (Option Addr×Nat)) (xss:List (List α)):List Hd:=List.zipWith (fun p xs=>(p.1,xs.length,p.2)) hs xss
theorem OwnSl.imm {J h:IH} {xs:List α} (ha:(OwnSl El T a cap xs).holds I h) (hle:I.le J) (hk:h.le J):RepSl El J a cap xs:=by
  rcases ha with ⟨_,h2,_⟩ | ⟨b,c,h1,h2,h3,h4,h5⟩
  · subst h2; exact .nil _ _ _
  · refine ⟨h3,fun i x hx=>?_⟩
    obtain ⟨cs,g1,g2⟩:=h5 i x hx
    exact ⟨b,0,cs,h1,⟨c,T,(0,0),hk _ _ h2,fun j v hj=>by rw [Nat.zero_add]; exact g2 j v hj⟩,El.mono hle g1⟩
theorem Ops.lookN {κ:Type} [DecidableEq κ] {kt et:TypeId} {ke:κ→Value} {k:κ} {zv:Value} {S:World→Prop} (K:KeyOk P kt ke) (hT:P.underlying T=some (.map kt et)) (hz:∀ w,(zeroValue et).run P w=.ok zv w)
    (hx:ev E x=some (.map none)) (hy:ev E y=some (ke k)) (hb:Nat.blt d n.sz=true) (hf:fresh E d=true) (g:Ops P ops l n ((d,zv) :: E) S Q):Ops P ops (⟨some d,.lookup T x y false,ty,pos,af,none⟩ :: l) n E S Q:=
  Ops.val rfl rfl (fun c w ho _=>by
    have hfd:=K.find k [] [] w rfl
    have e:(Instr.findKey kt (ke k) []).run P w=.ok none w:=by rw [hfd]; rfl
    simp [execOp,ho.eval hx,ho.eval hy,Instr.lookup,run_underlying hT,K.chk,e,hz]) hb hf g
end Go.Fw
