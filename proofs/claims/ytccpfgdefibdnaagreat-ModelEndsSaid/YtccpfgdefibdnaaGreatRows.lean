/-
  No cell of these rows narrows 'for every input' (looked for: loops, veiled, ifaces, maps, wideKeys, modest, calm, conditions, laid).
  DERIVED. THE GIVEN ROWS OF THIS SEAT. 5 by the template 'for every input the law returns true; each argument reads behind the call as it read before'; 0 by the template 'total and deterministic' (their statements: YtccpfgdefibdnaaGreatTotals.lean).
  GIVEN WITH THE SEED: the statements are not yours to turn. If you find one false, say at which input.
  Laid BY PROGRAM, IN A SANDBOX (cutbox-rows.mjs): the forced cells as the released guide's own fill.sh prints them over the translation 65c97c4bce2587db… (all of the seat's roots in one cut). By AI agents, Wed Nov 11 2026. No macro, syntax, notation, axiom, sorry.
-/
import Derived.Test.YtccpfgdefibdnaaGreatChecked
import GoSem.Claim
import GoSem.ClaimJoined
import GoSem.ClaimMapViews
import Derived.JoinedTies
import Derived.KernelRfl
namespace Go.Proofs.YtccpfgdefibdnaaGreat
/- THE CELL 'sum', in the pinned program and in every row, IS THE sha256 OF THE DUMP (.gsa) THAT YtccpfgdefibdnaaGreatProg.lean LOADS. Nothing in Lean hashes anything: it is a label: what it is worth is what the hold of that sum in a sandbox is worth. -/
noncomputable def Tryz.pinned : Pinned := { name := "ytccpfgdefibdnaagreat", sum := "65c97c4bce2587db86b9aebfe6f9d171d449ca49f636b46355e4bd8f69e81a5c", checked := Tryz.checked }
namespace Rows
def none {H : Type} : Left H := { results := [], args := [] }

/-- 'fretworklaw22.ModelRuns': WHATEVER THE INPUT: true; the input reads as it did. -/
def modelRunsSpec : ChangeSpec := { name := "modelRuns", fn := fun _ => fun
  | [d] => { results := [.lit (.bool true)], args := [d] }
  | _ => none }
def modelRunsRow : OpenClaim := { program := "ytccpfgdefibdnaagreat", sum := "65c97c4bce2587db86b9aebfe6f9d171d449ca49f636b46355e4bd8f69e81a5c", func := "fretwork/fretworklaw22.ModelRuns", spec := "modelRuns", unfollowed := true, recurses := true, plainKeys := false, apart := false }
def ModelRunsSaid : Prop := modelRunsRow.holds Tryz.pinned (OpenSpec.ofChange modelRunsSpec)

/-- ITS FALSE NEIGHBOUR: 'it returns false'. Refute it at one input. -/
def modelRunsWrong : ChangeSpec := { name := "modelRuns", fn := fun _ => fun
  | [d] => { results := [.lit (.bool false)], args := [d] }
  | _ => none }
def ModelRunsWrongFalsely : Prop := modelRunsRow.holds Tryz.pinned (OpenSpec.ofChange modelRunsWrong)

/-- 'fretworklaw22.ModelWrong': WHATEVER THE INPUT: true; the input reads as it did. -/
def modelWrongSpec : ChangeSpec := { name := "modelWrong", fn := fun _ => fun
  | [d1, d2, d3] => { results := [.lit (.bool true)], args := [d1, d2, d3] }
  | _ => none }
def modelWrongRow : OpenClaim := { program := "ytccpfgdefibdnaagreat", sum := "65c97c4bce2587db86b9aebfe6f9d171d449ca49f636b46355e4bd8f69e81a5c", func := "fretwork/fretworklaw22.ModelWrong", spec := "modelWrong", unfollowed := true, recurses := true, plainKeys := false, apart := false }
def ModelWrongSaid : Prop := modelWrongRow.holds Tryz.pinned (OpenSpec.ofChange modelWrongSpec)

/-- ITS FALSE NEIGHBOUR: 'it returns false'. Refute it at one input. -/
def modelWrongWrong : ChangeSpec := { name := "modelWrong", fn := fun _ => fun
  | [d1, d2, d3] => { results := [.lit (.bool false)], args := [d1, d2, d3] }
  | _ => none }
def ModelWrongWrongFalsely : Prop := modelWrongRow.holds Tryz.pinned (OpenSpec.ofChange modelWrongWrong)

/-- 'fretworklaw22.ModelSteps': WHATEVER THE INPUT: true; the input reads as it did. -/
def modelStepsSpec : ChangeSpec := { name := "modelSteps", fn := fun _ => fun
  | [d] => { results := [.lit (.bool true)], args := [d] }
  | _ => none }
def modelStepsRow : OpenClaim := { program := "ytccpfgdefibdnaagreat", sum := "65c97c4bce2587db86b9aebfe6f9d171d449ca49f636b46355e4bd8f69e81a5c", func := "fretwork/fretworklaw22.ModelSteps", spec := "modelSteps", unfollowed := true, recurses := true, plainKeys := false, apart := false }
def ModelStepsSaid : Prop := modelStepsRow.holds Tryz.pinned (OpenSpec.ofChange modelStepsSpec)

/-- ITS FALSE NEIGHBOUR: 'it returns false'. Refute it at one input. -/
def modelStepsWrong : ChangeSpec := { name := "modelSteps", fn := fun _ => fun
  | [d] => { results := [.lit (.bool false)], args := [d] }
  | _ => none }
def ModelStepsWrongFalsely : Prop := modelStepsRow.holds Tryz.pinned (OpenSpec.ofChange modelStepsWrong)

/-- 'fretworklaw22.ModelLess': WHATEVER THE INPUT: true; the input reads as it did. -/
def modelLessSpec : ChangeSpec := { name := "modelLess", fn := fun _ => fun
  | [d1, d2] => { results := [.lit (.bool true)], args := [d1, d2] }
  | _ => none }
def modelLessRow : OpenClaim := { program := "ytccpfgdefibdnaagreat", sum := "65c97c4bce2587db86b9aebfe6f9d171d449ca49f636b46355e4bd8f69e81a5c", func := "fretwork/fretworklaw22.ModelLess", spec := "modelLess", unfollowed := true, recurses := true, plainKeys := false, apart := false }
def ModelLessSaid : Prop := modelLessRow.holds Tryz.pinned (OpenSpec.ofChange modelLessSpec)

/-- ITS FALSE NEIGHBOUR: 'it returns false'. Refute it at one input. -/
def modelLessWrong : ChangeSpec := { name := "modelLess", fn := fun _ => fun
  | [d1, d2] => { results := [.lit (.bool false)], args := [d1, d2] }
  | _ => none }
def ModelLessWrongFalsely : Prop := modelLessRow.holds Tryz.pinned (OpenSpec.ofChange modelLessWrong)

/-- 'fretworklaw22.ModelEnds': WHATEVER THE INPUT: true; the input reads as it did. -/
def modelEndsSpec : ChangeSpec := { name := "modelEnds", fn := fun _ => fun
  | [d] => { results := [.lit (.bool true)], args := [d] }
  | _ => none }
def modelEndsRow : OpenClaim := { program := "ytccpfgdefibdnaagreat", sum := "65c97c4bce2587db86b9aebfe6f9d171d449ca49f636b46355e4bd8f69e81a5c", func := "fretwork/fretworklaw22.ModelEnds", spec := "modelEnds", unfollowed := true, recurses := true, plainKeys := false, apart := false }
def ModelEndsSaid : Prop := modelEndsRow.holds Tryz.pinned (OpenSpec.ofChange modelEndsSpec)

/-- ITS FALSE NEIGHBOUR: 'it returns false'. Refute it at one input. -/
def modelEndsWrong : ChangeSpec := { name := "modelEnds", fn := fun _ => fun
  | [d] => { results := [.lit (.bool false)], args := [d] }
  | _ => none }
def ModelEndsWrongFalsely : Prop := modelEndsRow.holds Tryz.pinned (OpenSpec.ofChange modelEndsWrong)

/- THE SECOND FORM. 'bulk': how many values and letters a reading holds, each counted each time it is reached (what is shared counts as often as it is met; a slice's spare places count too). A statement '..UptoSaid' is the law's where the arguments, and the package variables that the reading takes, are together of bulk at most 1048576: NARROWER than '..Said'. Prove '..Said' where nothing that the law and all that it calls make is longer than what came in: it says more and counts as full. Else prove '..UptoSaid'. A law counts once. -/
mutual
def uptoBulk {H : Type} : DataW H → Nat
  | .lit (.string bytes) => bytes.length + 1
  | .lit _ => 1
  | .nil => 1
  | .ptr d => uptoBulk d + 1
  | .slice elems spare => uptoBulkAll elems + uptoBulkAll spare + 1
  | .agg parts => uptoBulkAll parts + 1
  | .iface _ d => uptoBulk d + 1
  | .map entries => uptoBulkEntries entries + 1
  | .held _ => 1
def uptoBulkAll {H : Type} : List (DataW H) → Nat
  | [] => 0
  | d :: r => uptoBulk d + uptoBulkAll r
def uptoBulkEntries {H : Type} : List (Lit × DataW H) → Nat
  | [] => 0
  | x :: r => uptoBulkEntry x + uptoBulkEntries r
def uptoBulkEntry {H : Type} : Lit × DataW H → Nat
  | (.string bytes, d) => bytes.length + uptoBulk d + 1
  | (_, d) => uptoBulk d + 1
 end
def uptoSmall : (H : Type) → List (DataW H) → Bool := fun _ ds => decide (uptoBulkAll ds ≤ 1048576)
def OpenSpec.upto (s : _root_.Go.ChangeSpec) : _root_.Go.OpenSpec := { _root_.Go.OpenSpec.ofChange s with cond := some uptoSmall }

/-- 'fretworklaw22.ModelRuns', WHERE WHAT IT READS IS OF BULK AT MOST 1048576: true; the input reads as it did. -/
def modelRunsUptoRow : OpenClaim := { program := "ytccpfgdefibdnaagreat", sum := "65c97c4bce2587db86b9aebfe6f9d171d449ca49f636b46355e4bd8f69e81a5c", func := "fretwork/fretworklaw22.ModelRuns", spec := "modelRuns", unfollowed := true, recurses := true, plainKeys := false, apart := false, narrowed := true }
def ModelRunsUptoSaid : Prop := modelRunsUptoRow.holds Tryz.pinned (OpenSpec.upto modelRunsSpec)

/-- 'fretworklaw22.ModelWrong', WHERE WHAT IT READS IS OF BULK AT MOST 1048576: true; the input reads as it did. -/
def modelWrongUptoRow : OpenClaim := { program := "ytccpfgdefibdnaagreat", sum := "65c97c4bce2587db86b9aebfe6f9d171d449ca49f636b46355e4bd8f69e81a5c", func := "fretwork/fretworklaw22.ModelWrong", spec := "modelWrong", unfollowed := true, recurses := true, plainKeys := false, apart := false, narrowed := true }
def ModelWrongUptoSaid : Prop := modelWrongUptoRow.holds Tryz.pinned (OpenSpec.upto modelWrongSpec)

/-- 'fretworklaw22.ModelSteps', WHERE WHAT IT READS IS OF BULK AT MOST 1048576: true; the input reads as it did. -/
def modelStepsUptoRow : OpenClaim := { program := "ytccpfgdefibdnaagreat", sum := "65c97c4bce2587db86b9aebfe6f9d171d449ca49f636b46355e4bd8f69e81a5c", func := "fretwork/fretworklaw22.ModelSteps", spec := "modelSteps", unfollowed := true, recurses := true, plainKeys := false, apart := false, narrowed := true }
def ModelStepsUptoSaid : Prop := modelStepsUptoRow.holds Tryz.pinned (OpenSpec.upto modelStepsSpec)

/-- 'fretworklaw22.ModelLess', WHERE WHAT IT READS IS OF BULK AT MOST 1048576: true; the input reads as it did. -/
def modelLessUptoRow : OpenClaim := { program := "ytccpfgdefibdnaagreat", sum := "65c97c4bce2587db86b9aebfe6f9d171d449ca49f636b46355e4bd8f69e81a5c", func := "fretwork/fretworklaw22.ModelLess", spec := "modelLess", unfollowed := true, recurses := true, plainKeys := false, apart := false, narrowed := true }
def ModelLessUptoSaid : Prop := modelLessUptoRow.holds Tryz.pinned (OpenSpec.upto modelLessSpec)

/-- 'fretworklaw22.ModelEnds', WHERE WHAT IT READS IS OF BULK AT MOST 1048576: true; the input reads as it did. -/
def modelEndsUptoRow : OpenClaim := { program := "ytccpfgdefibdnaagreat", sum := "65c97c4bce2587db86b9aebfe6f9d171d449ca49f636b46355e4bd8f69e81a5c", func := "fretwork/fretworklaw22.ModelEnds", spec := "modelEnds", unfollowed := true, recurses := true, plainKeys := false, apart := false, narrowed := true }
def ModelEndsUptoSaid : Prop := modelEndsUptoRow.holds Tryz.pinned (OpenSpec.upto modelEndsSpec)

end Rows
end Go.Proofs.YtccpfgdefibdnaaGreat
