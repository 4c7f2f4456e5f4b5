/-
  No cell of these rows narrows 'for every input' (looked for: loops, veiled, ifaces, maps, wideKeys, modest, calm, conditions, laid).
  DERIVED. THE GIVEN ROWS OF THIS SEAT. 5 by the template 'for every input the law returns true; each argument reads behind the call as it read before'; 0 by the template 'total and deterministic' (their statements: YtpackolbhcmomaaGreatTotals.lean).
  GIVEN WITH THE SEED: the statements are not yours to turn. If you find one false, say at which input.
  Laid BY PROGRAM, IN A SANDBOX (cutbox-rows.mjs): the forced cells as the released guide's own fill.sh prints them over the translation a42d50eb556385be… (all of the seat's roots in one cut). By AI agents, Wed Nov 11 2026. No macro, syntax, notation, axiom, sorry.
-/
import Derived.Test.YtpackolbhcmomaaGreatChecked
import GoSem.Claim
import GoSem.ClaimJoined
import GoSem.ClaimMapViews
import Derived.JoinedTies
import Derived.KernelRfl
namespace Go.Proofs.YtpackolbhcmomaaGreat
/- THE CELL 'sum', in the pinned program and in every row, IS THE sha256 OF THE DUMP (.gsa) THAT YtpackolbhcmomaaGreatProg.lean LOADS. Nothing in Lean hashes anything: it is a label: what it is worth is what the hold of that sum in a sandbox is worth. -/
noncomputable def Tryz.pinned : Pinned := { name := "ytpackolbhcmomaagreat", sum := "a42d50eb556385be345d67e80c7b39314ac8ad99ebeaa95dfec28a49c4ade587", checked := Tryz.checked }
namespace Rows
def none {H : Type} : Left H := { results := [], args := [] }

/-- 'fretworklaw18.BlockCuts': WHATEVER THE INPUT: true; the input reads as it did. -/
def blockCutsSpec : ChangeSpec := { name := "blockCuts", fn := fun _ => fun
  | [d1, d2, d3] => { results := [.lit (.bool true)], args := [d1, d2, d3] }
  | _ => none }
def blockCutsRow : OpenClaim := { program := "ytpackolbhcmomaagreat", sum := "a42d50eb556385be345d67e80c7b39314ac8ad99ebeaa95dfec28a49c4ade587", func := "fretwork/fretworklaw18.BlockCuts", spec := "blockCuts", unfollowed := true, recurses := true, plainKeys := false, apart := false }
def BlockCutsSaid : Prop := blockCutsRow.holds Tryz.pinned (OpenSpec.ofChange blockCutsSpec)

/-- ITS FALSE NEIGHBOUR: 'it returns false'. Refute it at one input. -/
def blockCutsWrong : ChangeSpec := { name := "blockCuts", fn := fun _ => fun
  | [d1, d2, d3] => { results := [.lit (.bool false)], args := [d1, d2, d3] }
  | _ => none }
def BlockCutsWrongFalsely : Prop := blockCutsRow.holds Tryz.pinned (OpenSpec.ofChange blockCutsWrong)

/-- 'fretworklaw18.BlockJoins': WHATEVER THE INPUT: true; the input reads as it did. -/
def blockJoinsSpec : ChangeSpec := { name := "blockJoins", fn := fun _ => fun
  | [d1, d2, d3] => { results := [.lit (.bool true)], args := [d1, d2, d3] }
  | _ => none }
def blockJoinsRow : OpenClaim := { program := "ytpackolbhcmomaagreat", sum := "a42d50eb556385be345d67e80c7b39314ac8ad99ebeaa95dfec28a49c4ade587", func := "fretwork/fretworklaw18.BlockJoins", spec := "blockJoins", unfollowed := true, recurses := true, plainKeys := false, apart := false }
def BlockJoinsSaid : Prop := blockJoinsRow.holds Tryz.pinned (OpenSpec.ofChange blockJoinsSpec)

/-- ITS FALSE NEIGHBOUR: 'it returns false'. Refute it at one input. -/
def blockJoinsWrong : ChangeSpec := { name := "blockJoins", fn := fun _ => fun
  | [d1, d2, d3] => { results := [.lit (.bool false)], args := [d1, d2, d3] }
  | _ => none }
def BlockJoinsWrongFalsely : Prop := blockJoinsRow.holds Tryz.pinned (OpenSpec.ofChange blockJoinsWrong)

/-- 'fretworklaw18.BlockBack': WHATEVER THE INPUT: true; the input reads as it did. -/
def blockBackSpec : ChangeSpec := { name := "blockBack", fn := fun _ => fun
  | [d1, d2, d3] => { results := [.lit (.bool true)], args := [d1, d2, d3] }
  | _ => none }
def blockBackRow : OpenClaim := { program := "ytpackolbhcmomaagreat", sum := "a42d50eb556385be345d67e80c7b39314ac8ad99ebeaa95dfec28a49c4ade587", func := "fretwork/fretworklaw18.BlockBack", spec := "blockBack", unfollowed := true, recurses := true, plainKeys := false, apart := false }
def BlockBackSaid : Prop := blockBackRow.holds Tryz.pinned (OpenSpec.ofChange blockBackSpec)

/-- ITS FALSE NEIGHBOUR: 'it returns false'. Refute it at one input. -/
def blockBackWrong : ChangeSpec := { name := "blockBack", fn := fun _ => fun
  | [d1, d2, d3] => { results := [.lit (.bool false)], args := [d1, d2, d3] }
  | _ => none }
def BlockBackWrongFalsely : Prop := blockBackRow.holds Tryz.pinned (OpenSpec.ofChange blockBackWrong)

/-- 'fretworklaw18.BlockTurns': WHATEVER THE INPUT: true; the input reads as it did. -/
def blockTurnsSpec : ChangeSpec := { name := "blockTurns", fn := fun _ => fun
  | [d1, d2, d3] => { results := [.lit (.bool true)], args := [d1, d2, d3] }
  | _ => none }
def blockTurnsRow : OpenClaim := { program := "ytpackolbhcmomaagreat", sum := "a42d50eb556385be345d67e80c7b39314ac8ad99ebeaa95dfec28a49c4ade587", func := "fretwork/fretworklaw18.BlockTurns", spec := "blockTurns", unfollowed := true, recurses := true, plainKeys := false, apart := false }
def BlockTurnsSaid : Prop := blockTurnsRow.holds Tryz.pinned (OpenSpec.ofChange blockTurnsSpec)

/-- ITS FALSE NEIGHBOUR: 'it returns false'. Refute it at one input. -/
def blockTurnsWrong : ChangeSpec := { name := "blockTurns", fn := fun _ => fun
  | [d1, d2, d3] => { results := [.lit (.bool false)], args := [d1, d2, d3] }
  | _ => none }
def BlockTurnsWrongFalsely : Prop := blockTurnsRow.holds Tryz.pinned (OpenSpec.ofChange blockTurnsWrong)

/-- 'fretworklaw18.BlockTimes': WHATEVER THE INPUT: true; the input reads as it did. -/
def blockTimesSpec : ChangeSpec := { name := "blockTimes", fn := fun _ => fun
  | [d1, d2, d3] => { results := [.lit (.bool true)], args := [d1, d2, d3] }
  | _ => none }
def blockTimesRow : OpenClaim := { program := "ytpackolbhcmomaagreat", sum := "a42d50eb556385be345d67e80c7b39314ac8ad99ebeaa95dfec28a49c4ade587", func := "fretwork/fretworklaw18.BlockTimes", spec := "blockTimes", unfollowed := true, recurses := true, plainKeys := false, apart := false }
def BlockTimesSaid : Prop := blockTimesRow.holds Tryz.pinned (OpenSpec.ofChange blockTimesSpec)

/-- ITS FALSE NEIGHBOUR: 'it returns false'. Refute it at one input. -/
def blockTimesWrong : ChangeSpec := { name := "blockTimes", fn := fun _ => fun
  | [d1, d2, d3] => { results := [.lit (.bool false)], args := [d1, d2, d3] }
  | _ => none }
def BlockTimesWrongFalsely : Prop := blockTimesRow.holds Tryz.pinned (OpenSpec.ofChange blockTimesWrong)

/- THE SECOND FORM. 'bulk': how many values and letters a reading holds, each counted each time it is reached (what is shared counts as often as it is met; a slice's spare places count too). A statement '..UptoSaid' is the law's where the arguments, and the package variables that the reading takes, are together of bulk at most 1048576: NARROWER than '..Said'. Prove '..Said' where nothing that the law and all that it calls make is longer than what came in: it says more and counts as full. Else prove '..UptoSaid'. A law counts once. -/
mutual
def uptoBulk {H : Type} : DataW H → Nat
  | .lit (.string bytes) => bytes.length + 1
  | .lit _ => 1
  | .nil => 1
  | .ptr d => uptoBulk d + 1
  | .slice elems spare => uptoBulkAll elems + uptoBulkAll spare + 1
  | .agg parts => uptoBulkAll parts + 1
  | .iface _ d => uptoBulk d + 1
  | .map entries => uptoBulkEntries entries + 1
  | .held _ => 1
def uptoBulkAll {H : Type} : List (DataW H) → Nat
  | [] => 0
  | d :: r => uptoBulk d + uptoBulkAll r
def uptoBulkEntries {H : Type} : List (Lit × DataW H) → Nat
  | [] => 0
  | x :: r => uptoBulkEntry x + uptoBulkEntries r
def uptoBulkEntry {H : Type} : Lit × DataW H → Nat
  | (.string bytes, d) => bytes.length + uptoBulk d + 1
  | (_, d) => uptoBulk d + 1
 end
def uptoSmall : (H : Type) → List (DataW H) → Bool := fun _ ds => decide (uptoBulkAll ds ≤ 1048576)
def OpenSpec.upto (s : _root_.Go.ChangeSpec) : _root_.Go.OpenSpec := { _root_.Go.OpenSpec.ofChange s with cond := some uptoSmall }

/-- 'fretworklaw18.BlockCuts', WHERE WHAT IT READS IS OF BULK AT MOST 1048576: true; the input reads as it did. -/
def blockCutsUptoRow : OpenClaim := { program := "ytpackolbhcmomaagreat", sum := "a42d50eb556385be345d67e80c7b39314ac8ad99ebeaa95dfec28a49c4ade587", func := "fretwork/fretworklaw18.BlockCuts", spec := "blockCuts", unfollowed := true, recurses := true, plainKeys := false, apart := false, narrowed := true }
def BlockCutsUptoSaid : Prop := blockCutsUptoRow.holds Tryz.pinned (OpenSpec.upto blockCutsSpec)

/-- 'fretworklaw18.BlockJoins', WHERE WHAT IT READS IS OF BULK AT MOST 1048576: true; the input reads as it did. -/
def blockJoinsUptoRow : OpenClaim := { program := "ytpackolbhcmomaagreat", sum := "a42d50eb556385be345d67e80c7b39314ac8ad99ebeaa95dfec28a49c4ade587", func := "fretwork/fretworklaw18.BlockJoins", spec := "blockJoins", unfollowed := true, recurses := true, plainKeys := false, apart := false, narrowed := true }
def BlockJoinsUptoSaid : Prop := blockJoinsUptoRow.holds Tryz.pinned (OpenSpec.upto blockJoinsSpec)

/-- 'fretworklaw18.BlockBack', WHERE WHAT IT READS IS OF BULK AT MOST 1048576: true; the input reads as it did. -/
def blockBackUptoRow : OpenClaim := { program := "ytpackolbhcmomaagreat", sum := "a42d50eb556385be345d67e80c7b39314ac8ad99ebeaa95dfec28a49c4ade587", func := "fretwork/fretworklaw18.BlockBack", spec := "blockBack", unfollowed := true, recurses := true, plainKeys := false, apart := false, narrowed := true }
def BlockBackUptoSaid : Prop := blockBackUptoRow.holds Tryz.pinned (OpenSpec.upto blockBackSpec)

/-- 'fretworklaw18.BlockTurns', WHERE WHAT IT READS IS OF BULK AT MOST 1048576: true; the input reads as it did. -/
def blockTurnsUptoRow : OpenClaim := { program := "ytpackolbhcmomaagreat", sum := "a42d50eb556385be345d67e80c7b39314ac8ad99ebeaa95dfec28a49c4ade587", func := "fretwork/fretworklaw18.BlockTurns", spec := "blockTurns", unfollowed := true, recurses := true, plainKeys := false, apart := false, narrowed := true }
def BlockTurnsUptoSaid : Prop := blockTurnsUptoRow.holds Tryz.pinned (OpenSpec.upto blockTurnsSpec)

/-- 'fretworklaw18.BlockTimes', WHERE WHAT IT READS IS OF BULK AT MOST 1048576: true; the input reads as it did. -/
def blockTimesUptoRow : OpenClaim := { program := "ytpackolbhcmomaagreat", sum := "a42d50eb556385be345d67e80c7b39314ac8ad99ebeaa95dfec28a49c4ade587", func := "fretwork/fretworklaw18.BlockTimes", spec := "blockTimes", unfollowed := true, recurses := true, plainKeys := false, apart := false, narrowed := true }
def BlockTimesUptoSaid : Prop := blockTimesUptoRow.holds Tryz.pinned (OpenSpec.upto blockTimesSpec)

end Rows
end Go.Proofs.YtpackolbhcmomaaGreat
