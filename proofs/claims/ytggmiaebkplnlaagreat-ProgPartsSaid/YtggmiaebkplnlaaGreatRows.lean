/-
  No cell of these rows narrows 'for every input' (looked for: loops, veiled, ifaces, maps, wideKeys, modest, calm, conditions, laid).
  DERIVED. THE GIVEN ROWS OF THIS SEAT. 4 by the template 'for every input the law returns true; each argument reads behind the call as it read before'; 0 by the template 'total and deterministic' (their statements: YtggmiaebkplnlaaGreatTotals.lean).
  GIVEN WITH THE SEED: the statements are not yours to turn. If you find one false, say at which input.
  Laid BY PROGRAM, IN A SANDBOX (cutbox-rows.mjs): the forced cells as the released guide's own fill.sh prints them over the translation 604b5d4a51a3431c… (all of the seat's roots in one cut). By AI agents, Wed Nov 11 2026. No macro, syntax, notation, axiom, sorry.
-/
import Derived.Test.YtggmiaebkplnlaaGreatChecked
import GoSem.Claim
import GoSem.ClaimJoined
import GoSem.ClaimMapViews
import Derived.JoinedTies
import Derived.KernelRfl
namespace Go.Proofs.YtggmiaebkplnlaaGreat
/- THE CELL 'sum', in the pinned program and in every row, IS THE sha256 OF THE DUMP (.gsa) THAT YtggmiaebkplnlaaGreatProg.lean LOADS. Nothing in Lean hashes anything: it is a label: what it is worth is what the hold of that sum in a sandbox is worth. -/
noncomputable def Tryz.pinned : Pinned := { name := "ytggmiaebkplnlaagreat", sum := "604b5d4a51a3431cde12b774e5c296de1e8e9ea4c49dac6de01a9a67dc9f51c5", checked := Tryz.checked }
namespace Rows
def none {H : Type} : Left H := { results := [], args := [] }

/-- 'fretworklaw21.ProgIs': WHATEVER THE INPUT: true; the input reads as it did. -/
def progIsSpec : ChangeSpec := { name := "progIs", fn := fun _ => fun
  | [d1, d2, d3] => { results := [.lit (.bool true)], args := [d1, d2, d3] }
  | _ => none }
def progIsRow : OpenClaim := { program := "ytggmiaebkplnlaagreat", sum := "604b5d4a51a3431cde12b774e5c296de1e8e9ea4c49dac6de01a9a67dc9f51c5", func := "fretwork/fretworklaw21.ProgIs", spec := "progIs", unfollowed := true, recurses := true, plainKeys := false, apart := false }
def ProgIsSaid : Prop := progIsRow.holds Tryz.pinned (OpenSpec.ofChange progIsSpec)

/-- ITS FALSE NEIGHBOUR: 'it returns false'. Refute it at one input. -/
def progIsWrong : ChangeSpec := { name := "progIs", fn := fun _ => fun
  | [d1, d2, d3] => { results := [.lit (.bool false)], args := [d1, d2, d3] }
  | _ => none }
def ProgIsWrongFalsely : Prop := progIsRow.holds Tryz.pinned (OpenSpec.ofChange progIsWrong)

/-- 'fretworklaw21.ProgSteps': WHATEVER THE INPUT: true; the input reads as it did. -/
def progStepsSpec : ChangeSpec := { name := "progSteps", fn := fun _ => fun
  | [d1, d2, d3] => { results := [.lit (.bool true)], args := [d1, d2, d3] }
  | _ => none }
def progStepsRow : OpenClaim := { program := "ytggmiaebkplnlaagreat", sum := "604b5d4a51a3431cde12b774e5c296de1e8e9ea4c49dac6de01a9a67dc9f51c5", func := "fretwork/fretworklaw21.ProgSteps", spec := "progSteps", unfollowed := true, recurses := true, plainKeys := false, apart := false }
def ProgStepsSaid : Prop := progStepsRow.holds Tryz.pinned (OpenSpec.ofChange progStepsSpec)

/-- ITS FALSE NEIGHBOUR: 'it returns false'. Refute it at one input. -/
def progStepsWrong : ChangeSpec := { name := "progSteps", fn := fun _ => fun
  | [d1, d2, d3] => { results := [.lit (.bool false)], args := [d1, d2, d3] }
  | _ => none }
def ProgStepsWrongFalsely : Prop := progStepsRow.holds Tryz.pinned (OpenSpec.ofChange progStepsWrong)

/-- 'fretworklaw21.ProgParts': WHATEVER THE INPUT: true; the input reads as it did. -/
def progPartsSpec : ChangeSpec := { name := "progParts", fn := fun _ => fun
  | [d1, d2, d3] => { results := [.lit (.bool true)], args := [d1, d2, d3] }
  | _ => none }
def progPartsRow : OpenClaim := { program := "ytggmiaebkplnlaagreat", sum := "604b5d4a51a3431cde12b774e5c296de1e8e9ea4c49dac6de01a9a67dc9f51c5", func := "fretwork/fretworklaw21.ProgParts", spec := "progParts", unfollowed := true, recurses := true, plainKeys := false, apart := false }
def ProgPartsSaid : Prop := progPartsRow.holds Tryz.pinned (OpenSpec.ofChange progPartsSpec)

/-- ITS FALSE NEIGHBOUR: 'it returns false'. Refute it at one input. -/
def progPartsWrong : ChangeSpec := { name := "progParts", fn := fun _ => fun
  | [d1, d2, d3] => { results := [.lit (.bool false)], args := [d1, d2, d3] }
  | _ => none }
def ProgPartsWrongFalsely : Prop := progPartsRow.holds Tryz.pinned (OpenSpec.ofChange progPartsWrong)

/-- 'fretworklaw21.ProgFalls': WHATEVER THE INPUT: true; the input reads as it did. -/
def progFallsSpec : ChangeSpec := { name := "progFalls", fn := fun _ => fun
  | [d1, d2, d3] => { results := [.lit (.bool true)], args := [d1, d2, d3] }
  | _ => none }
def progFallsRow : OpenClaim := { program := "ytggmiaebkplnlaagreat", sum := "604b5d4a51a3431cde12b774e5c296de1e8e9ea4c49dac6de01a9a67dc9f51c5", func := "fretwork/fretworklaw21.ProgFalls", spec := "progFalls", unfollowed := true, recurses := true, plainKeys := false, apart := false }
def ProgFallsSaid : Prop := progFallsRow.holds Tryz.pinned (OpenSpec.ofChange progFallsSpec)

/-- ITS FALSE NEIGHBOUR: 'it returns false'. Refute it at one input. -/
def progFallsWrong : ChangeSpec := { name := "progFalls", fn := fun _ => fun
  | [d1, d2, d3] => { results := [.lit (.bool false)], args := [d1, d2, d3] }
  | _ => none }
def ProgFallsWrongFalsely : Prop := progFallsRow.holds Tryz.pinned (OpenSpec.ofChange progFallsWrong)

/- THE SECOND FORM. 'bulk': how many values and letters a reading holds, each counted each time it is reached (what is shared counts as often as it is met; a slice's spare places count too). A statement '..UptoSaid' is the law's where the arguments, and the package variables that the reading takes, are together of bulk at most 1048576: NARROWER than '..Said'. Prove '..Said' where nothing that the law and all that it calls make is longer than what came in: it says more and counts as full. Else prove '..UptoSaid'. A law counts once. -/
mutual
def uptoBulk {H : Type} : DataW H → Nat
  | .lit (.string bytes) => bytes.length + 1
  | .lit _ => 1
  | .nil => 1
  | .ptr d => uptoBulk d + 1
  | .slice elems spare => uptoBulkAll elems + uptoBulkAll spare + 1
  | .agg parts => uptoBulkAll parts + 1
  | .iface _ d => uptoBulk d + 1
  | .map entries => uptoBulkEntries entries + 1
  | .held _ => 1
def uptoBulkAll {H : Type} : List (DataW H) → Nat
  | [] => 0
  | d :: r => uptoBulk d + uptoBulkAll r
def uptoBulkEntries {H : Type} : List (Lit × DataW H) → Nat
  | [] => 0
  | x :: r => uptoBulkEntry x + uptoBulkEntries r
def uptoBulkEntry {H : Type} : Lit × DataW H → Nat
  | (.string bytes, d) => bytes.length + uptoBulk d + 1
  | (_, d) => uptoBulk d + 1
 end
def uptoSmall : (H : Type) → List (DataW H) → Bool := fun _ ds => decide (uptoBulkAll ds ≤ 1048576)
def OpenSpec.upto (s : _root_.Go.ChangeSpec) : _root_.Go.OpenSpec := { _root_.Go.OpenSpec.ofChange s with cond := some uptoSmall }

/-- 'fretworklaw21.ProgIs', WHERE WHAT IT READS IS OF BULK AT MOST 1048576: true; the input reads as it did. -/
def progIsUptoRow : OpenClaim := { program := "ytggmiaebkplnlaagreat", sum := "604b5d4a51a3431cde12b774e5c296de1e8e9ea4c49dac6de01a9a67dc9f51c5", func := "fretwork/fretworklaw21.ProgIs", spec := "progIs", unfollowed := true, recurses := true, plainKeys := false, apart := false, narrowed := true }
def ProgIsUptoSaid : Prop := progIsUptoRow.holds Tryz.pinned (OpenSpec.upto progIsSpec)

/-- 'fretworklaw21.ProgSteps', WHERE WHAT IT READS IS OF BULK AT MOST 1048576: true; the input reads as it did. -/
def progStepsUptoRow : OpenClaim := { program := "ytggmiaebkplnlaagreat", sum := "604b5d4a51a3431cde12b774e5c296de1e8e9ea4c49dac6de01a9a67dc9f51c5", func := "fretwork/fretworklaw21.ProgSteps", spec := "progSteps", unfollowed := true, recurses := true, plainKeys := false, apart := false, narrowed := true }
def ProgStepsUptoSaid : Prop := progStepsUptoRow.holds Tryz.pinned (OpenSpec.upto progStepsSpec)

/-- 'fretworklaw21.ProgParts', WHERE WHAT IT READS IS OF BULK AT MOST 1048576: true; the input reads as it did. -/
def progPartsUptoRow : OpenClaim := { program := "ytggmiaebkplnlaagreat", sum := "604b5d4a51a3431cde12b774e5c296de1e8e9ea4c49dac6de01a9a67dc9f51c5", func := "fretwork/fretworklaw21.ProgParts", spec := "progParts", unfollowed := true, recurses := true, plainKeys := false, apart := false, narrowed := true }
def ProgPartsUptoSaid : Prop := progPartsUptoRow.holds Tryz.pinned (OpenSpec.upto progPartsSpec)

/-- 'fretworklaw21.ProgFalls', WHERE WHAT IT READS IS OF BULK AT MOST 1048576: true; the input reads as it did. -/
def progFallsUptoRow : OpenClaim := { program := "ytggmiaebkplnlaagreat", sum := "604b5d4a51a3431cde12b774e5c296de1e8e9ea4c49dac6de01a9a67dc9f51c5", func := "fretwork/fretworklaw21.ProgFalls", spec := "progFalls", unfollowed := true, recurses := true, plainKeys := false, apart := false, narrowed := true }
def ProgFallsUptoSaid : Prop := progFallsUptoRow.holds Tryz.pinned (OpenSpec.upto progFallsSpec)

end Rows
end Go.Proofs.YtggmiaebkplnlaaGreat
