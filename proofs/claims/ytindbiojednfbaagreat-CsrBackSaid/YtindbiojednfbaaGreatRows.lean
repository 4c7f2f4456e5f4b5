/-
  No cell of these rows narrows 'for every input' (looked for: loops, veiled, ifaces, maps, wideKeys, modest, calm, conditions, laid).
  DERIVED. THE GIVEN ROWS OF THIS SEAT. 6 by the template 'for every input the law returns true; each argument reads behind the call as it read before'; 0 by the template 'total and deterministic' (their statements: YtindbiojednfbaaGreatTotals.lean).
  GIVEN WITH THE SEED: the statements are not yours to turn. If you find one false, say at which input.
  Laid BY PROGRAM, IN A SANDBOX (cutbox-rows.mjs): the forced cells as the released guide's own fill.sh prints them over the translation 981f1791dc329e3d… (all of the seat's roots in one cut). By AI agents, Wed Nov 11 2026. No macro, syntax, notation, axiom, sorry.
-/
import Derived.Test.YtindbiojednfbaaGreatChecked
import GoSem.Claim
import GoSem.ClaimJoined
import GoSem.ClaimMapViews
import Derived.JoinedTies
import Derived.KernelRfl
namespace Go.Proofs.YtindbiojednfbaaGreat
/- THE CELL 'sum', in the pinned program and in every row, IS THE sha256 OF THE DUMP (.gsa) THAT YtindbiojednfbaaGreatProg.lean LOADS. Nothing in Lean hashes anything: it is a label: what it is worth is what the hold of that sum in a sandbox is worth. -/
noncomputable def Tryz.pinned : Pinned := { name := "ytindbiojednfbaagreat", sum := "981f1791dc329e3d6d25d1f1851d626b9915e859e09438401cf9840310a16cda", checked := Tryz.checked }
namespace Rows
def none {H : Type} : Left H := { results := [], args := [] }

/-- 'fretworklaw07.CsrOf': WHATEVER THE INPUT: true; the input reads as it did. -/
def csrOfSpec : ChangeSpec := { name := "csrOf", fn := fun _ => fun
  | [d1, d2, d3] => { results := [.lit (.bool true)], args := [d1, d2, d3] }
  | _ => none }
def csrOfRow : OpenClaim := { program := "ytindbiojednfbaagreat", sum := "981f1791dc329e3d6d25d1f1851d626b9915e859e09438401cf9840310a16cda", func := "fretwork/fretworklaw07.CsrOf", spec := "csrOf", unfollowed := true, recurses := true, plainKeys := false, apart := false }
def CsrOfSaid : Prop := csrOfRow.holds Tryz.pinned (OpenSpec.ofChange csrOfSpec)

/-- ITS FALSE NEIGHBOUR: 'it returns false'. Refute it at one input. -/
def csrOfWrong : ChangeSpec := { name := "csrOf", fn := fun _ => fun
  | [d1, d2, d3] => { results := [.lit (.bool false)], args := [d1, d2, d3] }
  | _ => none }
def CsrOfWrongFalsely : Prop := csrOfRow.holds Tryz.pinned (OpenSpec.ofChange csrOfWrong)

/-- 'fretworklaw07.CsrAsks': WHATEVER THE INPUT: true; the input reads as it did. -/
def csrAsksSpec : ChangeSpec := { name := "csrAsks", fn := fun _ => fun
  | [d1, d2, d3] => { results := [.lit (.bool true)], args := [d1, d2, d3] }
  | _ => none }
def csrAsksRow : OpenClaim := { program := "ytindbiojednfbaagreat", sum := "981f1791dc329e3d6d25d1f1851d626b9915e859e09438401cf9840310a16cda", func := "fretwork/fretworklaw07.CsrAsks", spec := "csrAsks", unfollowed := true, recurses := true, plainKeys := false, apart := false }
def CsrAsksSaid : Prop := csrAsksRow.holds Tryz.pinned (OpenSpec.ofChange csrAsksSpec)

/-- ITS FALSE NEIGHBOUR: 'it returns false'. Refute it at one input. -/
def csrAsksWrong : ChangeSpec := { name := "csrAsks", fn := fun _ => fun
  | [d1, d2, d3] => { results := [.lit (.bool false)], args := [d1, d2, d3] }
  | _ => none }
def CsrAsksWrongFalsely : Prop := csrAsksRow.holds Tryz.pinned (OpenSpec.ofChange csrAsksWrong)

/-- 'fretworklaw07.CsrGraph': WHATEVER THE INPUT: true; the input reads as it did. -/
def csrGraphSpec : ChangeSpec := { name := "csrGraph", fn := fun _ => fun
  | [d] => { results := [.lit (.bool true)], args := [d] }
  | _ => none }
def csrGraphRow : OpenClaim := { program := "ytindbiojednfbaagreat", sum := "981f1791dc329e3d6d25d1f1851d626b9915e859e09438401cf9840310a16cda", func := "fretwork/fretworklaw07.CsrGraph", spec := "csrGraph", unfollowed := true, recurses := true, plainKeys := false, apart := false }
def CsrGraphSaid : Prop := csrGraphRow.holds Tryz.pinned (OpenSpec.ofChange csrGraphSpec)

/-- ITS FALSE NEIGHBOUR: 'it returns false'. Refute it at one input. -/
def csrGraphWrong : ChangeSpec := { name := "csrGraph", fn := fun _ => fun
  | [d] => { results := [.lit (.bool false)], args := [d] }
  | _ => none }
def CsrGraphWrongFalsely : Prop := csrGraphRow.holds Tryz.pinned (OpenSpec.ofChange csrGraphWrong)

/-- 'fretworklaw07.CsrBack': WHATEVER THE INPUT: true; the input reads as it did. -/
def csrBackSpec : ChangeSpec := { name := "csrBack", fn := fun _ => fun
  | [d1, d2, d3] => { results := [.lit (.bool true)], args := [d1, d2, d3] }
  | _ => none }
def csrBackRow : OpenClaim := { program := "ytindbiojednfbaagreat", sum := "981f1791dc329e3d6d25d1f1851d626b9915e859e09438401cf9840310a16cda", func := "fretwork/fretworklaw07.CsrBack", spec := "csrBack", unfollowed := true, recurses := true, plainKeys := false, apart := false }
def CsrBackSaid : Prop := csrBackRow.holds Tryz.pinned (OpenSpec.ofChange csrBackSpec)

/-- ITS FALSE NEIGHBOUR: 'it returns false'. Refute it at one input. -/
def csrBackWrong : ChangeSpec := { name := "csrBack", fn := fun _ => fun
  | [d1, d2, d3] => { results := [.lit (.bool false)], args := [d1, d2, d3] }
  | _ => none }
def CsrBackWrongFalsely : Prop := csrBackRow.holds Tryz.pinned (OpenSpec.ofChange csrBackWrong)

/-- 'fretworklaw07.CsrTurns': WHATEVER THE INPUT: true; the input reads as it did. -/
def csrTurnsSpec : ChangeSpec := { name := "csrTurns", fn := fun _ => fun
  | [d1, d2, d3] => { results := [.lit (.bool true)], args := [d1, d2, d3] }
  | _ => none }
def csrTurnsRow : OpenClaim := { program := "ytindbiojednfbaagreat", sum := "981f1791dc329e3d6d25d1f1851d626b9915e859e09438401cf9840310a16cda", func := "fretwork/fretworklaw07.CsrTurns", spec := "csrTurns", unfollowed := true, recurses := true, plainKeys := false, apart := false }
def CsrTurnsSaid : Prop := csrTurnsRow.holds Tryz.pinned (OpenSpec.ofChange csrTurnsSpec)

/-- ITS FALSE NEIGHBOUR: 'it returns false'. Refute it at one input. -/
def csrTurnsWrong : ChangeSpec := { name := "csrTurns", fn := fun _ => fun
  | [d1, d2, d3] => { results := [.lit (.bool false)], args := [d1, d2, d3] }
  | _ => none }
def CsrTurnsWrongFalsely : Prop := csrTurnsRow.holds Tryz.pinned (OpenSpec.ofChange csrTurnsWrong)

/-- 'fretworklaw07.CsrCuts': WHATEVER THE INPUT: true; the input reads as it did. -/
def csrCutsSpec : ChangeSpec := { name := "csrCuts", fn := fun _ => fun
  | [d1, d2, d3] => { results := [.lit (.bool true)], args := [d1, d2, d3] }
  | _ => none }
def csrCutsRow : OpenClaim := { program := "ytindbiojednfbaagreat", sum := "981f1791dc329e3d6d25d1f1851d626b9915e859e09438401cf9840310a16cda", func := "fretwork/fretworklaw07.CsrCuts", spec := "csrCuts", unfollowed := true, recurses := true, plainKeys := false, apart := false }
def CsrCutsSaid : Prop := csrCutsRow.holds Tryz.pinned (OpenSpec.ofChange csrCutsSpec)

/-- ITS FALSE NEIGHBOUR: 'it returns false'. Refute it at one input. -/
def csrCutsWrong : ChangeSpec := { name := "csrCuts", fn := fun _ => fun
  | [d1, d2, d3] => { results := [.lit (.bool false)], args := [d1, d2, d3] }
  | _ => none }
def CsrCutsWrongFalsely : Prop := csrCutsRow.holds Tryz.pinned (OpenSpec.ofChange csrCutsWrong)

/- THE SECOND FORM. 'bulk': how many values and letters a reading holds, each counted each time it is reached (what is shared counts as often as it is met; a slice's spare places count too). A statement '..UptoSaid' is the law's where the arguments, and the package variables that the reading takes, are together of bulk at most 1048576: NARROWER than '..Said'. Prove '..Said' where nothing that the law and all that it calls make is longer than what came in: it says more and counts as full. Else prove '..UptoSaid'. A law counts once. -/
mutual
def uptoBulk {H : Type} : DataW H → Nat
  | .lit (.string bytes) => bytes.length + 1
  | .lit _ => 1
  | .nil => 1
  | .ptr d => uptoBulk d + 1
  | .slice elems spare => uptoBulkAll elems + uptoBulkAll spare + 1
  | .agg parts => uptoBulkAll parts + 1
  | .iface _ d => uptoBulk d + 1
  | .map entries => uptoBulkEntries entries + 1
  | .held _ => 1
def uptoBulkAll {H : Type} : List (DataW H) → Nat
  | [] => 0
  | d :: r => uptoBulk d + uptoBulkAll r
def uptoBulkEntries {H : Type} : List (Lit × DataW H) → Nat
  | [] => 0
  | x :: r => uptoBulkEntry x + uptoBulkEntries r
def uptoBulkEntry {H : Type} : Lit × DataW H → Nat
  | (.string bytes, d) => bytes.length + uptoBulk d + 1
  | (_, d) => uptoBulk d + 1
 end
def uptoSmall : (H : Type) → List (DataW H) → Bool := fun _ ds => decide (uptoBulkAll ds ≤ 1048576)
def OpenSpec.upto (s : _root_.Go.ChangeSpec) : _root_.Go.OpenSpec := { _root_.Go.OpenSpec.ofChange s with cond := some uptoSmall }

/-- 'fretworklaw07.CsrOf', WHERE WHAT IT READS IS OF BULK AT MOST 1048576: true; the input reads as it did. -/
def csrOfUptoRow : OpenClaim := { program := "ytindbiojednfbaagreat", sum := "981f1791dc329e3d6d25d1f1851d626b9915e859e09438401cf9840310a16cda", func := "fretwork/fretworklaw07.CsrOf", spec := "csrOf", unfollowed := true, recurses := true, plainKeys := false, apart := false, narrowed := true }
def CsrOfUptoSaid : Prop := csrOfUptoRow.holds Tryz.pinned (OpenSpec.upto csrOfSpec)

/-- 'fretworklaw07.CsrAsks', WHERE WHAT IT READS IS OF BULK AT MOST 1048576: true; the input reads as it did. -/
def csrAsksUptoRow : OpenClaim := { program := "ytindbiojednfbaagreat", sum := "981f1791dc329e3d6d25d1f1851d626b9915e859e09438401cf9840310a16cda", func := "fretwork/fretworklaw07.CsrAsks", spec := "csrAsks", unfollowed := true, recurses := true, plainKeys := false, apart := false, narrowed := true }
def CsrAsksUptoSaid : Prop := csrAsksUptoRow.holds Tryz.pinned (OpenSpec.upto csrAsksSpec)

/-- 'fretworklaw07.CsrGraph', WHERE WHAT IT READS IS OF BULK AT MOST 1048576: true; the input reads as it did. -/
def csrGraphUptoRow : OpenClaim := { program := "ytindbiojednfbaagreat", sum := "981f1791dc329e3d6d25d1f1851d626b9915e859e09438401cf9840310a16cda", func := "fretwork/fretworklaw07.CsrGraph", spec := "csrGraph", unfollowed := true, recurses := true, plainKeys := false, apart := false, narrowed := true }
def CsrGraphUptoSaid : Prop := csrGraphUptoRow.holds Tryz.pinned (OpenSpec.upto csrGraphSpec)

/-- 'fretworklaw07.CsrBack', WHERE WHAT IT READS IS OF BULK AT MOST 1048576: true; the input reads as it did. -/
def csrBackUptoRow : OpenClaim := { program := "ytindbiojednfbaagreat", sum := "981f1791dc329e3d6d25d1f1851d626b9915e859e09438401cf9840310a16cda", func := "fretwork/fretworklaw07.CsrBack", spec := "csrBack", unfollowed := true, recurses := true, plainKeys := false, apart := false, narrowed := true }
def CsrBackUptoSaid : Prop := csrBackUptoRow.holds Tryz.pinned (OpenSpec.upto csrBackSpec)

/-- 'fretworklaw07.CsrTurns', WHERE WHAT IT READS IS OF BULK AT MOST 1048576: true; the input reads as it did. -/
def csrTurnsUptoRow : OpenClaim := { program := "ytindbiojednfbaagreat", sum := "981f1791dc329e3d6d25d1f1851d626b9915e859e09438401cf9840310a16cda", func := "fretwork/fretworklaw07.CsrTurns", spec := "csrTurns", unfollowed := true, recurses := true, plainKeys := false, apart := false, narrowed := true }
def CsrTurnsUptoSaid : Prop := csrTurnsUptoRow.holds Tryz.pinned (OpenSpec.upto csrTurnsSpec)

/-- 'fretworklaw07.CsrCuts', WHERE WHAT IT READS IS OF BULK AT MOST 1048576: true; the input reads as it did. -/
def csrCutsUptoRow : OpenClaim := { program := "ytindbiojednfbaagreat", sum := "981f1791dc329e3d6d25d1f1851d626b9915e859e09438401cf9840310a16cda", func := "fretwork/fretworklaw07.CsrCuts", spec := "csrCuts", unfollowed := true, recurses := true, plainKeys := false, apart := false, narrowed := true }
def CsrCutsUptoSaid : Prop := csrCutsUptoRow.holds Tryz.pinned (OpenSpec.upto csrCutsSpec)

end Rows
end Go.Proofs.YtindbiojednfbaaGreat
