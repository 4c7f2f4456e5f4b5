/- The engine. -/
import Derived.Test.YtbohadngdkjljaaGreatFwV
namespace Go.Fw
open Go Go.RowKit
variable {w0 w:World} {M:Nat→Prop} {I0 I:IH} {m m':List HA}
variable {P:Program} {n:FrK} {E:DA} {S:World→Prop} {Q:Exit→Act→World→Prop} {ops:Array Oper} {l:List Oper}
variable {d ty:Nat} {pos:String} {af:Array Edge} {T e:TypeId} {x y:Operand} {α:Type} {El:F0 α} {a:Option Addr} {cap:Nat} {xss:List (List α)}
theorem Sym.unfoldL {A:HA} (h:Sym w0 M I0 I (A :: m) w) {X:Prop} (g:∀ k,A.holds I k→∃ L:List HA,OU L I k∧(Sym w0 M I0 I (L++m) w→X)):X:=by
 obtain ⟨D,hi,G,k,⟨h1,h2,hd',hl1,hl2,ha,hs'⟩,hk,hdj,hm⟩:=h
 obtain ⟨L,O,J⟩:=g h1 ha
 exact J ⟨D,hi,G,k,LZ.2 ⟨h1,h2,hd',hl1,hl2,O,hs'⟩,hk,hdj,hm⟩
theorem Sym.foldL {A:HA} {L:List HA} (h:Sym w0 M I0 I (L++m) w) (g:∀ k,OU L I k→A.holds I k):Sym w0 M I0 I (A :: m) w:=by
 obtain ⟨W,hi,Y,k,Z,hk,O,hm⟩:=h
 obtain ⟨V,h2,G,U,D,ha,J⟩:=LZ.1 Z
 exact ⟨W,hi,Y,k,⟨V,h2,G,U,D,g V ha,J⟩,hk,O,hm⟩
theorem Sym.foldL2 {A B:HA} {L:List HA} (h:Sym w0 M I0 I (A :: (L++m)) w) (g:∀ k,OU L I k→B.holds I k):Sym w0 M I0 I (A :: B :: m) w:=by
 obtain ⟨W,hi,Y,k,⟨h1,h2,hd',hl1,hl2,ha,hs'⟩,hk,hdj,hm⟩:=h
 obtain ⟨V,Z,D,O,G,J,U⟩:=LZ.1 hs'
 exact ⟨W,hi,Y,k,⟨h1,h2,hd',hl1,hl2,ha,V,Z,D,O,G,g V J,U⟩,hk,hdj,hm⟩
end Go.Fw
