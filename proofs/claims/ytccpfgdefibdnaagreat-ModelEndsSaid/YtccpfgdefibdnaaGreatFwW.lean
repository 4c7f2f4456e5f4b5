/- The engine, part W: own slices of own slices. -/
import Derived.Test.YtccpfgdefibdnaaGreatFwV
namespace Go.Fw
open Go Go.RowKit
variable {w0 w:World} {M:Nat→Prop} {I0 I:IH} {m m':List HA}
variable {P:Program} {n:FrK} {E:Env} {S:World→Prop} {Q:Exit→Act→World→Prop} {ops:Array Oper} {l:List Oper}
variable {d ty:Nat} {pos:String} {af:Array Edge} {T e:TypeId} {x y:Operand} {α:Type} {El:Elem α} {a:Option Addr} {cap:Nat} {xss:List (List α)}
end Go.Fw
