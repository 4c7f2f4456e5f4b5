/- The engine, part W: own slices of own slices. -/
import Derived.Test.YtbohadngdkjljaaGreatFwV
namespace Go.Fw
open Go Go.RowKit
variable {w0 w:World} {M:Nat→Prop} {I0 I:IH} {m m':List HA}
variable {P:Program} {n:FrK} {E:DE} {S:World→Prop} {Q:Exit→Act→World→Prop} {ops:Array Oper} {l:List Oper}
variable {d ty:Nat} {pos:String} {af:Array Edge} {T e:TypeId} {x y:Operand} {α:Type} {El:FE α} {a:Option Addr} {cap:Nat} {xss:List (List α)}
theorem Sym.unfoldL {A:HA} (h:Sym w0 M I0 I (A :: m) w) {X:Prop} (g:∀ k,A.holds I k→∃ L:List HA,QA L I k∧(Sym w0 M I0 I (L++m) w→X)):X:=by
  obtain ⟨hb,hi,hn,k,⟨h1,h2,hd',hl1,hl2,ha,hs'⟩,hk,hdj,hm⟩:=h
  obtain ⟨L,hL,hX⟩:=g h1 ha
  exact hX ⟨hb,hi,hn,k,MH.2 ⟨h1,h2,hd',hl1,hl2,hL,hs'⟩,hk,hdj,hm⟩
theorem Sym.foldL {A:HA} {L:List HA} (h:Sym w0 M I0 I (L++m) w) (g:∀ k,QA L I k→A.holds I k):Sym w0 M I0 I (A :: m) w:=by
  obtain ⟨hb,hi,hn,k,hs,hk,hdj,hm⟩:=h
  obtain ⟨h1,h2,hd',hl1,hl2,ha,hs'⟩:=MH.1 hs
  exact ⟨hb,hi,hn,k,⟨h1,h2,hd',hl1,hl2,g h1 ha,hs'⟩,hk,hdj,hm⟩
theorem Sym.foldL2 {A B:HA} {L:List HA} (h:Sym w0 M I0 I (A :: (L++m)) w) (g:∀ k,QA L I k→B.holds I k):Sym w0 M I0 I (A :: B :: m) w:=by
  obtain ⟨hb,hi,hn,k,⟨h1,h2,hd',hl1,hl2,ha,hs'⟩,hk,hdj,hm⟩:=h
  obtain ⟨h3,h4,hd3,hl3,hl4,hb',hm'⟩:=MH.1 hs'
  exact ⟨hb,hi,hn,k,⟨h1,h2,hd',hl1,hl2,ha,h3,h4,hd3,hl3,hl4,g h3 hb',hm'⟩,hk,hdj,hm⟩
theorem OwnSl.imm {J h:IH} {xs:List α} (ha:(OwnSl El T a cap xs).holds I h) (hle:I.le J) (hk:h.le J):RepSl El J a cap xs:=by
  rcases ha with ⟨_,h2,_⟩ | ⟨b,c,h1,h2,h3,h4,h5⟩
  · subst h2; exact .nil _ _ _
  · refine ⟨h3,fun i x hx=>?_⟩
    obtain ⟨cs,g1,g2⟩:=h5 i x hx
    exact ⟨b,0,cs,h1,⟨c,T,(0,0),hk _ _ h2,fun j v hj=>by rw [Nat.zero_add]; exact g2 j v hj⟩,El.mono hle g1⟩
end Go.Fw
