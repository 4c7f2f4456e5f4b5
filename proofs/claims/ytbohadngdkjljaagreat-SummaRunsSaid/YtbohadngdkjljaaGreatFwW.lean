/- The engine. -/
import Derived.Test.YtbohadngdkjljaaGreatFwV
namespace Go.Fw
open Go Go.RowKit
variable {w0 w:World} {M:Nat→Prop} {I0 I:IH} {m m':List HA}
variable {P:Program} {n:FrK} {E:D7} {S:World→Prop} {Q:Exit→Act→World→Prop} {ops:Array Oper} {l:List Oper}
variable {d ty:Nat} {pos:String} {af:Array Edge} {T e:TypeId} {x y:Operand} {α:Type} {El:ET α} {a:Option Addr} {cap:Nat} {xss:List (List α)}
theorem Sym.unfoldL {A:HA} (h:Sym w0 M I0 I (A :: m) w) {X:Prop} (g:∀ k,A.holds I k→∃ L:List HA,OV L I k∧(Sym w0 M I0 I (L++m) w→X)):X:=by
 obtain ⟨D,hi,O,k,⟨h1,h2,hd',hl1,hl2,ha,hs'⟩,hk,hdj,hm⟩:=h
 obtain ⟨L,J,G⟩:=g h1 ha
 exact G ⟨D,hi,O,k,LV.2 ⟨h1,h2,hd',hl1,hl2,J,hs'⟩,hk,hdj,hm⟩
theorem Sym.foldL {A:HA} {L:List HA} (h:Sym w0 M I0 I (L++m) w) (g:∀ k,OV L I k→A.holds I k):Sym w0 M I0 I (A :: m) w:=by
 obtain ⟨W,hi,Y,k,Z,hk,D,hm⟩:=h
 obtain ⟨V,h2,U,G,O,ha,J⟩:=LV.1 Z
 exact ⟨W,hi,Y,k,⟨V,h2,U,G,O,g V ha,J⟩,hk,D,hm⟩
theorem Sym.foldL2 {A B:HA} {L:List HA} (h:Sym w0 M I0 I (A :: (L++m)) w) (g:∀ k,OV L I k→B.holds I k):Sym w0 M I0 I (A :: B :: m) w:=by
 obtain ⟨W,hi,Z,k,⟨h1,h2,hd',hl1,hl2,ha,hs'⟩,hk,hdj,hm⟩:=h
 obtain ⟨V,Y,U,J,O,D,G⟩:=LV.1 hs'
 exact ⟨W,hi,Z,k,⟨h1,h2,hd',hl1,hl2,ha,V,Y,U,J,O,g V D,G⟩,hk,hdj,hm⟩
end Go.Fw
