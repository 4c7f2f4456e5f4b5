/- The engine, part N: views of own slices: shortened, moved together, cleared behind the end. -/
import Derived.Test.YtaefnmlbnkmahaaGreatFwM
namespace Go.Fw
set_option linter.unusedSimpArgs false
set_option linter.unusedVariables false
open Go Go.RowKit
variable {w0 w:World} {M:Nat→Prop} {I0 I:IH} {m m':List HA}
variable {P:Program} {n:FrK} {E:Env} {Q:Exit→Act→World→Prop} {ops:Array Oper} {l:List Oper}
variable {d ty:Nat} {pos:String} {af:Array Edge} {T e:TypeId} {x y z:Operand}
variable {α:Type} {El:Elem α} {xs ys:List α} {a:Option Addr} {cap:Nat}
/-! ### Elements of own slices that lead on -/
section
variable {enc:α→List Value} {s:Nat} {he:∀ x,(enc x).length=s∧ones (enc x)=true}
end
end Go.Fw
