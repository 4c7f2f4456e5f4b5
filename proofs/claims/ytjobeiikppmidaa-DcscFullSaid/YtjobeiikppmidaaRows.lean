/-
  No cell of these rows narrows 'for every input' (looked for: loops, veiled, ifaces, maps, wideKeys, modest, calm, conditions, laid).
  DERIVED. THE GIVEN ROWS OF THIS SEAT. 3 by the template 'for every input the law returns true; each argument reads behind the call as it read before'; 0 by the template 'total and deterministic' (their statements: YtjobeiikppmidaaTotals.lean).
  GIVEN WITH THE SEED: the statements are not yours to turn. If you find one false, say at which input.
  Laid BY PROGRAM, IN A SANDBOX (cutbox-rows.mjs): the forced cells as the released guide's own fill.sh prints them over the translation c52508473af5e574… (all of the seat's roots in one cut). By AI agents, Wed Nov 11 2026. No macro, syntax, notation, axiom, sorry.
-/
import Derived.Test.YtjobeiikppmidaaChecked
import GoSem.Claim
import GoSem.ClaimJoined
import GoSem.ClaimMapViews
import Derived.JoinedTies
import Derived.KernelRfl
namespace Go.Proofs.Ytjobeiikppmidaa
/- THE CELL 'sum', in the pinned program and in every row, IS THE sha256 OF THE DUMP (.gsa) THAT YtjobeiikppmidaaProg.lean LOADS. Nothing in Lean hashes anything: it is a label: what it is worth is what the hold of that sum in a sandbox is worth. -/
noncomputable def Try.pinned : Pinned := { name := "ytjobeiikppmidaa", sum := "c52508473af5e57451cb92916c629878dd6c7ef418745ad0fe2d8318e297ae95", checked := Try.checked }
namespace Rows
def none {H : Type} : Left H := { results := [], args := [] }

/-- 'fretworklaw08.DcscBack': WHATEVER THE INPUT: true; the input reads as it did. -/
def dcscBackSpec : ChangeSpec := { name := "dcscBack", fn := fun _ => fun
  | [d1, d2] => { results := [.lit (.bool true)], args := [d1, d2] }
  | _ => none }
def dcscBackRow : OpenClaim := { program := "ytjobeiikppmidaa", sum := "c52508473af5e57451cb92916c629878dd6c7ef418745ad0fe2d8318e297ae95", func := "fretwork/fretworklaw08.DcscBack", spec := "dcscBack", unfollowed := true, recurses := true, plainKeys := false, apart := false }
def DcscBackSaid : Prop := dcscBackRow.holds Try.pinned (OpenSpec.ofChange dcscBackSpec)

/-- ITS FALSE NEIGHBOUR: 'it returns false'. Refute it at one input. -/
def dcscBackWrong : ChangeSpec := { name := "dcscBack", fn := fun _ => fun
  | [d1, d2] => { results := [.lit (.bool false)], args := [d1, d2] }
  | _ => none }
def DcscBackWrongFalsely : Prop := dcscBackRow.holds Try.pinned (OpenSpec.ofChange dcscBackWrong)

/-- 'fretworklaw08.DcscTurns': WHATEVER THE INPUT: true; the input reads as it did. -/
def dcscTurnsSpec : ChangeSpec := { name := "dcscTurns", fn := fun _ => fun
  | [d1, d2, d3] => { results := [.lit (.bool true)], args := [d1, d2, d3] }
  | _ => none }
def dcscTurnsRow : OpenClaim := { program := "ytjobeiikppmidaa", sum := "c52508473af5e57451cb92916c629878dd6c7ef418745ad0fe2d8318e297ae95", func := "fretwork/fretworklaw08.DcscTurns", spec := "dcscTurns", unfollowed := true, recurses := true, plainKeys := false, apart := false }
def DcscTurnsSaid : Prop := dcscTurnsRow.holds Try.pinned (OpenSpec.ofChange dcscTurnsSpec)

/-- ITS FALSE NEIGHBOUR: 'it returns false'. Refute it at one input. -/
def dcscTurnsWrong : ChangeSpec := { name := "dcscTurns", fn := fun _ => fun
  | [d1, d2, d3] => { results := [.lit (.bool false)], args := [d1, d2, d3] }
  | _ => none }
def DcscTurnsWrongFalsely : Prop := dcscTurnsRow.holds Try.pinned (OpenSpec.ofChange dcscTurnsWrong)

/-- 'fretworklaw08.DcscFull': WHATEVER THE INPUT: true; the input reads as it did. -/
def dcscFullSpec : ChangeSpec := { name := "dcscFull", fn := fun _ => fun
  | [d1, d2] => { results := [.lit (.bool true)], args := [d1, d2] }
  | _ => none }
def dcscFullRow : OpenClaim := { program := "ytjobeiikppmidaa", sum := "c52508473af5e57451cb92916c629878dd6c7ef418745ad0fe2d8318e297ae95", func := "fretwork/fretworklaw08.DcscFull", spec := "dcscFull", unfollowed := true, recurses := true, plainKeys := false, apart := false }
def DcscFullSaid : Prop := dcscFullRow.holds Try.pinned (OpenSpec.ofChange dcscFullSpec)

/-- ITS FALSE NEIGHBOUR: 'it returns false'. Refute it at one input. -/
def dcscFullWrong : ChangeSpec := { name := "dcscFull", fn := fun _ => fun
  | [d1, d2] => { results := [.lit (.bool false)], args := [d1, d2] }
  | _ => none }
def DcscFullWrongFalsely : Prop := dcscFullRow.holds Try.pinned (OpenSpec.ofChange dcscFullWrong)

/- THE SECOND FORM. 'bulk': how many values and letters a reading holds, each counted each time it is reached (what is shared counts as often as it is met; a slice's spare places count too). A statement '..UptoSaid' is the law's where the arguments, and the package variables that the reading takes, are together of bulk at most 1048576: NARROWER than '..Said'. Prove '..Said' where nothing that the law and all that it calls make is longer than what came in: it says more and counts as full. Else prove '..UptoSaid'. A law counts once. -/
mutual
def uptoBulk {H : Type} : DataW H → Nat
  | .lit (.string bytes) => bytes.length + 1
  | .lit _ => 1
  | .nil => 1
  | .ptr d => uptoBulk d + 1
  | .slice elems spare => uptoBulkAll elems + uptoBulkAll spare + 1
  | .agg parts => uptoBulkAll parts + 1
  | .iface _ d => uptoBulk d + 1
  | .map entries => uptoBulkEntries entries + 1
  | .held _ => 1
def uptoBulkAll {H : Type} : List (DataW H) → Nat
  | [] => 0
  | d :: r => uptoBulk d + uptoBulkAll r
def uptoBulkEntries {H : Type} : List (Lit × DataW H) → Nat
  | [] => 0
  | x :: r => uptoBulkEntry x + uptoBulkEntries r
def uptoBulkEntry {H : Type} : Lit × DataW H → Nat
  | (.string bytes, d) => bytes.length + uptoBulk d + 1
  | (_, d) => uptoBulk d + 1
 end
def uptoSmall : (H : Type) → List (DataW H) → Bool := fun _ ds => decide (uptoBulkAll ds ≤ 1048576)
def OpenSpec.upto (s : _root_.Go.ChangeSpec) : _root_.Go.OpenSpec := { _root_.Go.OpenSpec.ofChange s with cond := some uptoSmall }

/-- 'fretworklaw08.DcscBack', WHERE WHAT IT READS IS OF BULK AT MOST 1048576: true; the input reads as it did. -/
def dcscBackUptoRow : OpenClaim := { program := "ytjobeiikppmidaa", sum := "c52508473af5e57451cb92916c629878dd6c7ef418745ad0fe2d8318e297ae95", func := "fretwork/fretworklaw08.DcscBack", spec := "dcscBack", unfollowed := true, recurses := true, plainKeys := false, apart := false, narrowed := true }
def DcscBackUptoSaid : Prop := dcscBackUptoRow.holds Try.pinned (OpenSpec.upto dcscBackSpec)

/-- 'fretworklaw08.DcscTurns', WHERE WHAT IT READS IS OF BULK AT MOST 1048576: true; the input reads as it did. -/
def dcscTurnsUptoRow : OpenClaim := { program := "ytjobeiikppmidaa", sum := "c52508473af5e57451cb92916c629878dd6c7ef418745ad0fe2d8318e297ae95", func := "fretwork/fretworklaw08.DcscTurns", spec := "dcscTurns", unfollowed := true, recurses := true, plainKeys := false, apart := false, narrowed := true }
def DcscTurnsUptoSaid : Prop := dcscTurnsUptoRow.holds Try.pinned (OpenSpec.upto dcscTurnsSpec)

/-- 'fretworklaw08.DcscFull', WHERE WHAT IT READS IS OF BULK AT MOST 1048576: true; the input reads as it did. -/
def dcscFullUptoRow : OpenClaim := { program := "ytjobeiikppmidaa", sum := "c52508473af5e57451cb92916c629878dd6c7ef418745ad0fe2d8318e297ae95", func := "fretwork/fretworklaw08.DcscFull", spec := "dcscFull", unfollowed := true, recurses := true, plainKeys := false, apart := false, narrowed := true }
def DcscFullUptoSaid : Prop := dcscFullUptoRow.holds Try.pinned (OpenSpec.upto dcscFullSpec)

end Rows
end Go.Proofs.Ytjobeiikppmidaa
