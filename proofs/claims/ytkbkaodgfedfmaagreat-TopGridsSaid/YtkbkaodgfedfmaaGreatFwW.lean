/- The engine. -/
import Derived.Test.YtkbkaodgfedfmaaGreatFwV
namespace Go.Fw
open Go Go.RowKit
variable {w0 w:World} {M:Nat→Prop} {I0 I:IH} {m m':List HA}
variable {P:Program} {n:FrK} {E:CZ} {S:World→Prop} {Q:Exit→Act→World→Prop} {ops:Array Oper} {l:List Oper}
variable {d ty:Nat} {pos:String} {af:Array Edge} {T e:TypeId} {x y:Operand} {α:Type} {El:EP α} {a:Option Addr} {cap:Nat} {xss:List (List α)}
abbrev Hd:=Option Addr×Nat×Nat
def heads (h:List (Option Addr×Nat)) (xss:List (List α)):List Hd:=List.zipWith (λp xs=>(p.1,xs.length,p.2)) h xss
theorem Sym.unfoldL {A:HA} (h:Sym w0 M I0 I (A :: m) w) {X:Prop} (g:∀ k,A.holds I k->∃ L:List HA,QI L I k∧(Sym w0 M I0 I (L++m) w->X)):X:=by obtain⟨K,hi,O,k,⟨h1,h2,hd',hl1,hl2,ha,hs'⟩,hk,hdj,hm⟩:=h;obtain⟨L,J,D⟩:=g h1 ha;exact D ⟨K,hi,O,k,MF.2 ⟨h1,h2,hd',hl1,hl2,J,hs'⟩,hk,hdj,hm⟩
theorem Sym.foldL {A:HA} {L:List HA} (h:Sym w0 M I0 I (L++m) w) (g:∀ k,QI L I k->A.holds I k):Sym w0 M I0 I (A :: m) w:=by obtain⟨Z,hi,hn,k,W,hk,D,hm⟩:=h;obtain⟨V,h2,U,J,O,ha,K⟩:=MF.1 W;exact⟨Z,hi,hn,k,⟨V,h2,U,J,O,g V ha,K⟩,hk,D,hm⟩
theorem Sym.foldL2 {A B:HA} {L:List HA} (h:Sym w0 M I0 I (A :: (L++m)) w) (g:∀ k,QI L I k->B.holds I k):Sym w0 M I0 I (A :: B :: m) w:=by obtain⟨Z,hi,hn,k,⟨h1,h2,hd',hl1,hl2,ha,hs'⟩,hk,hdj,hm⟩:=h;obtain⟨V,W,O,K,J,U,D⟩:=MF.1 hs';exact⟨Z,hi,hn,k,⟨h1,h2,hd',hl1,hl2,ha,V,W,O,K,J,g V U,D⟩,hk,hdj,hm⟩
end Go.Fw
