/-
  No cell of these rows narrows 'for every input' (looked for: loops, veiled, ifaces, maps, wideKeys, modest, calm, conditions, laid).
  DERIVED. THE GIVEN ROWS OF THIS SEAT. 12 by the template 'for every input the law returns true; each argument reads behind the call as it read before'; 0 by the template 'total and deterministic' (their statements: YtaefnmlbnkmahaaGreatTotals.lean).
  GIVEN WITH THE SEED: the statements are not yours to turn. If you find one false, say at which input.
  Laid BY PROGRAM, IN A SANDBOX (cutbox-rows.mjs): the forced cells as the released guide's own fill.sh prints them over the translation a91edf4e5fd11495… (all of the seat's roots in one cut). By AI agents, Wed Nov 11 2026. No macro, syntax, notation, axiom, sorry.
-/
import Derived.Test.YtaefnmlbnkmahaaGreatChecked
import GoSem.Claim
import GoSem.ClaimJoined
import GoSem.ClaimMapViews
import Derived.JoinedTies
import Derived.KernelRfl
namespace Go.Proofs.YtaefnmlbnkmahaaGreat
/- THE CELL 'sum', in the pinned program and in every row, IS THE sha256 OF THE DUMP (.gsa) THAT YtaefnmlbnkmahaaGreatProg.lean LOADS. Nothing in Lean hashes anything: it is a label: what it is worth is what the hold of that sum in a sandbox is worth. -/
noncomputable def Tryz.pinned : Pinned := { name := "ytaefnmlbnkmahaagreat", sum := "a91edf4e5fd114952e9a6c53f6e080834ff24b87abac32e8c6c3a3093fe65949", checked := Tryz.checked }
namespace Rows
def none {H : Type} : Left H := { results := [], args := [] }

/-- 'fretworktop.TopWalks': WHATEVER THE INPUT: true; the input reads as it did. -/
def topWalksSpec : ChangeSpec := { name := "topWalks", fn := fun _ => fun
  | [d1, d2] => { results := [.lit (.bool true)], args := [d1, d2] }
  | _ => none }
def topWalksRow : OpenClaim := { program := "ytaefnmlbnkmahaagreat", sum := "a91edf4e5fd114952e9a6c53f6e080834ff24b87abac32e8c6c3a3093fe65949", func := "fretwork/fretworktop.TopWalks", spec := "topWalks", unfollowed := true, recurses := true, plainKeys := false, apart := false }
def TopWalksSaid : Prop := topWalksRow.holds Tryz.pinned (OpenSpec.ofChange topWalksSpec)

/-- ITS FALSE NEIGHBOUR: 'it returns false'. Refute it at one input. -/
def topWalksWrong : ChangeSpec := { name := "topWalks", fn := fun _ => fun
  | [d1, d2] => { results := [.lit (.bool false)], args := [d1, d2] }
  | _ => none }
def TopWalksWrongFalsely : Prop := topWalksRow.holds Tryz.pinned (OpenSpec.ofChange topWalksWrong)

/-- 'fretworklaw35.VertexMail': WHATEVER THE INPUT: true; the input reads as it did. -/
def vertexMailSpec : ChangeSpec := { name := "vertexMail", fn := fun _ => fun
  | [d1, d2, d3] => { results := [.lit (.bool true)], args := [d1, d2, d3] }
  | _ => none }
def vertexMailRow : OpenClaim := { program := "ytaefnmlbnkmahaagreat", sum := "a91edf4e5fd114952e9a6c53f6e080834ff24b87abac32e8c6c3a3093fe65949", func := "fretwork/fretworklaw35.VertexMail", spec := "vertexMail", unfollowed := true, recurses := true, plainKeys := false, apart := false }
def VertexMailSaid : Prop := vertexMailRow.holds Tryz.pinned (OpenSpec.ofChange vertexMailSpec)

/-- ITS FALSE NEIGHBOUR: 'it returns false'. Refute it at one input. -/
def vertexMailWrong : ChangeSpec := { name := "vertexMail", fn := fun _ => fun
  | [d1, d2, d3] => { results := [.lit (.bool false)], args := [d1, d2, d3] }
  | _ => none }
def VertexMailWrongFalsely : Prop := vertexMailRow.holds Tryz.pinned (OpenSpec.ofChange vertexMailWrong)

/-- 'fretworklaw35.VertexHears': WHATEVER THE INPUT: true; the input reads as it did. -/
def vertexHearsSpec : ChangeSpec := { name := "vertexHears", fn := fun _ => fun
  | [d1, d2, d3] => { results := [.lit (.bool true)], args := [d1, d2, d3] }
  | _ => none }
def vertexHearsRow : OpenClaim := { program := "ytaefnmlbnkmahaagreat", sum := "a91edf4e5fd114952e9a6c53f6e080834ff24b87abac32e8c6c3a3093fe65949", func := "fretwork/fretworklaw35.VertexHears", spec := "vertexHears", unfollowed := true, recurses := true, plainKeys := false, apart := false }
def VertexHearsSaid : Prop := vertexHearsRow.holds Tryz.pinned (OpenSpec.ofChange vertexHearsSpec)

/-- ITS FALSE NEIGHBOUR: 'it returns false'. Refute it at one input. -/
def vertexHearsWrong : ChangeSpec := { name := "vertexHears", fn := fun _ => fun
  | [d1, d2, d3] => { results := [.lit (.bool false)], args := [d1, d2, d3] }
  | _ => none }
def VertexHearsWrongFalsely : Prop := vertexHearsRow.holds Tryz.pinned (OpenSpec.ofChange vertexHearsWrong)

/-- 'fretworklaw35.VertexSteps': WHATEVER THE INPUT: true; the input reads as it did. -/
def vertexStepsSpec : ChangeSpec := { name := "vertexSteps", fn := fun _ => fun
  | [d] => { results := [.lit (.bool true)], args := [d] }
  | _ => none }
def vertexStepsRow : OpenClaim := { program := "ytaefnmlbnkmahaagreat", sum := "a91edf4e5fd114952e9a6c53f6e080834ff24b87abac32e8c6c3a3093fe65949", func := "fretwork/fretworklaw35.VertexSteps", spec := "vertexSteps", unfollowed := true, recurses := true, plainKeys := false, apart := false }
def VertexStepsSaid : Prop := vertexStepsRow.holds Tryz.pinned (OpenSpec.ofChange vertexStepsSpec)

/-- ITS FALSE NEIGHBOUR: 'it returns false'. Refute it at one input. -/
def vertexStepsWrong : ChangeSpec := { name := "vertexSteps", fn := fun _ => fun
  | [d] => { results := [.lit (.bool false)], args := [d] }
  | _ => none }
def VertexStepsWrongFalsely : Prop := vertexStepsRow.holds Tryz.pinned (OpenSpec.ofChange vertexStepsWrong)

/-- 'fretworklaw35.VertexRuns': WHATEVER THE INPUT: true; the input reads as it did. -/
def vertexRunsSpec : ChangeSpec := { name := "vertexRuns", fn := fun _ => fun
  | [d] => { results := [.lit (.bool true)], args := [d] }
  | _ => none }
def vertexRunsRow : OpenClaim := { program := "ytaefnmlbnkmahaagreat", sum := "a91edf4e5fd114952e9a6c53f6e080834ff24b87abac32e8c6c3a3093fe65949", func := "fretwork/fretworklaw35.VertexRuns", spec := "vertexRuns", unfollowed := true, recurses := true, plainKeys := false, apart := false }
def VertexRunsSaid : Prop := vertexRunsRow.holds Tryz.pinned (OpenSpec.ofChange vertexRunsSpec)

/-- ITS FALSE NEIGHBOUR: 'it returns false'. Refute it at one input. -/
def vertexRunsWrong : ChangeSpec := { name := "vertexRuns", fn := fun _ => fun
  | [d] => { results := [.lit (.bool false)], args := [d] }
  | _ => none }
def VertexRunsWrongFalsely : Prop := vertexRunsRow.holds Tryz.pinned (OpenSpec.ofChange vertexRunsWrong)

/-- 'fretworklaw35.VertexWrong': WHATEVER THE INPUT: true; the input reads as it did. -/
def vertexWrongSpec : ChangeSpec := { name := "vertexWrong", fn := fun _ => fun
  | [d1, d2, d3] => { results := [.lit (.bool true)], args := [d1, d2, d3] }
  | _ => none }
def vertexWrongRow : OpenClaim := { program := "ytaefnmlbnkmahaagreat", sum := "a91edf4e5fd114952e9a6c53f6e080834ff24b87abac32e8c6c3a3093fe65949", func := "fretwork/fretworklaw35.VertexWrong", spec := "vertexWrong", unfollowed := true, recurses := true, plainKeys := false, apart := false }
def VertexWrongSaid : Prop := vertexWrongRow.holds Tryz.pinned (OpenSpec.ofChange vertexWrongSpec)

/-- ITS FALSE NEIGHBOUR: 'it returns false'. Refute it at one input. -/
def vertexWrongWrong : ChangeSpec := { name := "vertexWrong", fn := fun _ => fun
  | [d1, d2, d3] => { results := [.lit (.bool false)], args := [d1, d2, d3] }
  | _ => none }
def VertexWrongWrongFalsely : Prop := vertexWrongRow.holds Tryz.pinned (OpenSpec.ofChange vertexWrongWrong)

/-- 'fretworklaw35.VertexOrder': WHATEVER THE INPUT: true; the input reads as it did. -/
def vertexOrderSpec : ChangeSpec := { name := "vertexOrder", fn := fun _ => fun
  | [d1, d2] => { results := [.lit (.bool true)], args := [d1, d2] }
  | _ => none }
def vertexOrderRow : OpenClaim := { program := "ytaefnmlbnkmahaagreat", sum := "a91edf4e5fd114952e9a6c53f6e080834ff24b87abac32e8c6c3a3093fe65949", func := "fretwork/fretworklaw35.VertexOrder", spec := "vertexOrder", unfollowed := true, recurses := true, plainKeys := false, apart := false }
def VertexOrderSaid : Prop := vertexOrderRow.holds Tryz.pinned (OpenSpec.ofChange vertexOrderSpec)

/-- ITS FALSE NEIGHBOUR: 'it returns false'. Refute it at one input. -/
def vertexOrderWrong : ChangeSpec := { name := "vertexOrder", fn := fun _ => fun
  | [d1, d2] => { results := [.lit (.bool false)], args := [d1, d2] }
  | _ => none }
def VertexOrderWrongFalsely : Prop := vertexOrderRow.holds Tryz.pinned (OpenSpec.ofChange vertexOrderWrong)

/-- 'fretworklaw22.ModelRuns': WHATEVER THE INPUT: true; the input reads as it did. -/
def modelRunsSpec : ChangeSpec := { name := "modelRuns", fn := fun _ => fun
  | [d] => { results := [.lit (.bool true)], args := [d] }
  | _ => none }
def modelRunsRow : OpenClaim := { program := "ytaefnmlbnkmahaagreat", sum := "a91edf4e5fd114952e9a6c53f6e080834ff24b87abac32e8c6c3a3093fe65949", func := "fretwork/fretworklaw22.ModelRuns", spec := "modelRuns", unfollowed := true, recurses := true, plainKeys := false, apart := false }
def ModelRunsSaid : Prop := modelRunsRow.holds Tryz.pinned (OpenSpec.ofChange modelRunsSpec)

/-- ITS FALSE NEIGHBOUR: 'it returns false'. Refute it at one input. -/
def modelRunsWrong : ChangeSpec := { name := "modelRuns", fn := fun _ => fun
  | [d] => { results := [.lit (.bool false)], args := [d] }
  | _ => none }
def ModelRunsWrongFalsely : Prop := modelRunsRow.holds Tryz.pinned (OpenSpec.ofChange modelRunsWrong)

/-- 'fretworklaw22.ModelWrong': WHATEVER THE INPUT: true; the input reads as it did. -/
def modelWrongSpec : ChangeSpec := { name := "modelWrong", fn := fun _ => fun
  | [d1, d2, d3] => { results := [.lit (.bool true)], args := [d1, d2, d3] }
  | _ => none }
def modelWrongRow : OpenClaim := { program := "ytaefnmlbnkmahaagreat", sum := "a91edf4e5fd114952e9a6c53f6e080834ff24b87abac32e8c6c3a3093fe65949", func := "fretwork/fretworklaw22.ModelWrong", spec := "modelWrong", unfollowed := true, recurses := true, plainKeys := false, apart := false }
def ModelWrongSaid : Prop := modelWrongRow.holds Tryz.pinned (OpenSpec.ofChange modelWrongSpec)

/-- ITS FALSE NEIGHBOUR: 'it returns false'. Refute it at one input. -/
def modelWrongWrong : ChangeSpec := { name := "modelWrong", fn := fun _ => fun
  | [d1, d2, d3] => { results := [.lit (.bool false)], args := [d1, d2, d3] }
  | _ => none }
def ModelWrongWrongFalsely : Prop := modelWrongRow.holds Tryz.pinned (OpenSpec.ofChange modelWrongWrong)

/-- 'fretworklaw22.ModelSteps': WHATEVER THE INPUT: true; the input reads as it did. -/
def modelStepsSpec : ChangeSpec := { name := "modelSteps", fn := fun _ => fun
  | [d] => { results := [.lit (.bool true)], args := [d] }
  | _ => none }
def modelStepsRow : OpenClaim := { program := "ytaefnmlbnkmahaagreat", sum := "a91edf4e5fd114952e9a6c53f6e080834ff24b87abac32e8c6c3a3093fe65949", func := "fretwork/fretworklaw22.ModelSteps", spec := "modelSteps", unfollowed := true, recurses := true, plainKeys := false, apart := false }
def ModelStepsSaid : Prop := modelStepsRow.holds Tryz.pinned (OpenSpec.ofChange modelStepsSpec)

/-- ITS FALSE NEIGHBOUR: 'it returns false'. Refute it at one input. -/
def modelStepsWrong : ChangeSpec := { name := "modelSteps", fn := fun _ => fun
  | [d] => { results := [.lit (.bool false)], args := [d] }
  | _ => none }
def ModelStepsWrongFalsely : Prop := modelStepsRow.holds Tryz.pinned (OpenSpec.ofChange modelStepsWrong)

/-- 'fretworklaw22.ModelLess': WHATEVER THE INPUT: true; the input reads as it did. -/
def modelLessSpec : ChangeSpec := { name := "modelLess", fn := fun _ => fun
  | [d1, d2] => { results := [.lit (.bool true)], args := [d1, d2] }
  | _ => none }
def modelLessRow : OpenClaim := { program := "ytaefnmlbnkmahaagreat", sum := "a91edf4e5fd114952e9a6c53f6e080834ff24b87abac32e8c6c3a3093fe65949", func := "fretwork/fretworklaw22.ModelLess", spec := "modelLess", unfollowed := true, recurses := true, plainKeys := false, apart := false }
def ModelLessSaid : Prop := modelLessRow.holds Tryz.pinned (OpenSpec.ofChange modelLessSpec)

/-- ITS FALSE NEIGHBOUR: 'it returns false'. Refute it at one input. -/
def modelLessWrong : ChangeSpec := { name := "modelLess", fn := fun _ => fun
  | [d1, d2] => { results := [.lit (.bool false)], args := [d1, d2] }
  | _ => none }
def ModelLessWrongFalsely : Prop := modelLessRow.holds Tryz.pinned (OpenSpec.ofChange modelLessWrong)

/-- 'fretworklaw22.ModelEnds': WHATEVER THE INPUT: true; the input reads as it did. -/
def modelEndsSpec : ChangeSpec := { name := "modelEnds", fn := fun _ => fun
  | [d] => { results := [.lit (.bool true)], args := [d] }
  | _ => none }
def modelEndsRow : OpenClaim := { program := "ytaefnmlbnkmahaagreat", sum := "a91edf4e5fd114952e9a6c53f6e080834ff24b87abac32e8c6c3a3093fe65949", func := "fretwork/fretworklaw22.ModelEnds", spec := "modelEnds", unfollowed := true, recurses := true, plainKeys := false, apart := false }
def ModelEndsSaid : Prop := modelEndsRow.holds Tryz.pinned (OpenSpec.ofChange modelEndsSpec)

/-- ITS FALSE NEIGHBOUR: 'it returns false'. Refute it at one input. -/
def modelEndsWrong : ChangeSpec := { name := "modelEnds", fn := fun _ => fun
  | [d] => { results := [.lit (.bool false)], args := [d] }
  | _ => none }
def ModelEndsWrongFalsely : Prop := modelEndsRow.holds Tryz.pinned (OpenSpec.ofChange modelEndsWrong)

/- THE SECOND FORM. 'bulk': how many values and letters a reading holds, each counted each time it is reached (what is shared counts as often as it is met; a slice's spare places count too). A statement '..UptoSaid' is the law's where the arguments, and the package variables that the reading takes, are together of bulk at most 1048576: NARROWER than '..Said'. Prove '..Said' where nothing that the law and all that it calls make is longer than what came in: it says more and counts as full. Else prove '..UptoSaid'. A law counts once. -/
mutual
def uptoBulk {H : Type} : DataW H → Nat
  | .lit (.string bytes) => bytes.length + 1
  | .lit _ => 1
  | .nil => 1
  | .ptr d => uptoBulk d + 1
  | .slice elems spare => uptoBulkAll elems + uptoBulkAll spare + 1
  | .agg parts => uptoBulkAll parts + 1
  | .iface _ d => uptoBulk d + 1
  | .map entries => uptoBulkEntries entries + 1
  | .held _ => 1
def uptoBulkAll {H : Type} : List (DataW H) → Nat
  | [] => 0
  | d :: r => uptoBulk d + uptoBulkAll r
def uptoBulkEntries {H : Type} : List (Lit × DataW H) → Nat
  | [] => 0
  | x :: r => uptoBulkEntry x + uptoBulkEntries r
def uptoBulkEntry {H : Type} : Lit × DataW H → Nat
  | (.string bytes, d) => bytes.length + uptoBulk d + 1
  | (_, d) => uptoBulk d + 1
 end
def uptoSmall : (H : Type) → List (DataW H) → Bool := fun _ ds => decide (uptoBulkAll ds ≤ 1048576)
def OpenSpec.upto (s : _root_.Go.ChangeSpec) : _root_.Go.OpenSpec := { _root_.Go.OpenSpec.ofChange s with cond := some uptoSmall }

/-- 'fretworktop.TopWalks', WHERE WHAT IT READS IS OF BULK AT MOST 1048576: true; the input reads as it did. -/
def topWalksUptoRow : OpenClaim := { program := "ytaefnmlbnkmahaagreat", sum := "a91edf4e5fd114952e9a6c53f6e080834ff24b87abac32e8c6c3a3093fe65949", func := "fretwork/fretworktop.TopWalks", spec := "topWalks", unfollowed := true, recurses := true, plainKeys := false, apart := false, narrowed := true }
def TopWalksUptoSaid : Prop := topWalksUptoRow.holds Tryz.pinned (OpenSpec.upto topWalksSpec)

/-- 'fretworklaw35.VertexMail', WHERE WHAT IT READS IS OF BULK AT MOST 1048576: true; the input reads as it did. -/
def vertexMailUptoRow : OpenClaim := { program := "ytaefnmlbnkmahaagreat", sum := "a91edf4e5fd114952e9a6c53f6e080834ff24b87abac32e8c6c3a3093fe65949", func := "fretwork/fretworklaw35.VertexMail", spec := "vertexMail", unfollowed := true, recurses := true, plainKeys := false, apart := false, narrowed := true }
def VertexMailUptoSaid : Prop := vertexMailUptoRow.holds Tryz.pinned (OpenSpec.upto vertexMailSpec)

/-- 'fretworklaw35.VertexHears', WHERE WHAT IT READS IS OF BULK AT MOST 1048576: true; the input reads as it did. -/
def vertexHearsUptoRow : OpenClaim := { program := "ytaefnmlbnkmahaagreat", sum := "a91edf4e5fd114952e9a6c53f6e080834ff24b87abac32e8c6c3a3093fe65949", func := "fretwork/fretworklaw35.VertexHears", spec := "vertexHears", unfollowed := true, recurses := true, plainKeys := false, apart := false, narrowed := true }
def VertexHearsUptoSaid : Prop := vertexHearsUptoRow.holds Tryz.pinned (OpenSpec.upto vertexHearsSpec)

/-- 'fretworklaw35.VertexSteps', WHERE WHAT IT READS IS OF BULK AT MOST 1048576: true; the input reads as it did. -/
def vertexStepsUptoRow : OpenClaim := { program := "ytaefnmlbnkmahaagreat", sum := "a91edf4e5fd114952e9a6c53f6e080834ff24b87abac32e8c6c3a3093fe65949", func := "fretwork/fretworklaw35.VertexSteps", spec := "vertexSteps", unfollowed := true, recurses := true, plainKeys := false, apart := false, narrowed := true }
def VertexStepsUptoSaid : Prop := vertexStepsUptoRow.holds Tryz.pinned (OpenSpec.upto vertexStepsSpec)

/-- 'fretworklaw35.VertexRuns', WHERE WHAT IT READS IS OF BULK AT MOST 1048576: true; the input reads as it did. -/
def vertexRunsUptoRow : OpenClaim := { program := "ytaefnmlbnkmahaagreat", sum := "a91edf4e5fd114952e9a6c53f6e080834ff24b87abac32e8c6c3a3093fe65949", func := "fretwork/fretworklaw35.VertexRuns", spec := "vertexRuns", unfollowed := true, recurses := true, plainKeys := false, apart := false, narrowed := true }
def VertexRunsUptoSaid : Prop := vertexRunsUptoRow.holds Tryz.pinned (OpenSpec.upto vertexRunsSpec)

/-- 'fretworklaw35.VertexWrong', WHERE WHAT IT READS IS OF BULK AT MOST 1048576: true; the input reads as it did. -/
def vertexWrongUptoRow : OpenClaim := { program := "ytaefnmlbnkmahaagreat", sum := "a91edf4e5fd114952e9a6c53f6e080834ff24b87abac32e8c6c3a3093fe65949", func := "fretwork/fretworklaw35.VertexWrong", spec := "vertexWrong", unfollowed := true, recurses := true, plainKeys := false, apart := false, narrowed := true }
def VertexWrongUptoSaid : Prop := vertexWrongUptoRow.holds Tryz.pinned (OpenSpec.upto vertexWrongSpec)

/-- 'fretworklaw35.VertexOrder', WHERE WHAT IT READS IS OF BULK AT MOST 1048576: true; the input reads as it did. -/
def vertexOrderUptoRow : OpenClaim := { program := "ytaefnmlbnkmahaagreat", sum := "a91edf4e5fd114952e9a6c53f6e080834ff24b87abac32e8c6c3a3093fe65949", func := "fretwork/fretworklaw35.VertexOrder", spec := "vertexOrder", unfollowed := true, recurses := true, plainKeys := false, apart := false, narrowed := true }
def VertexOrderUptoSaid : Prop := vertexOrderUptoRow.holds Tryz.pinned (OpenSpec.upto vertexOrderSpec)

/-- 'fretworklaw22.ModelRuns', WHERE WHAT IT READS IS OF BULK AT MOST 1048576: true; the input reads as it did. -/
def modelRunsUptoRow : OpenClaim := { program := "ytaefnmlbnkmahaagreat", sum := "a91edf4e5fd114952e9a6c53f6e080834ff24b87abac32e8c6c3a3093fe65949", func := "fretwork/fretworklaw22.ModelRuns", spec := "modelRuns", unfollowed := true, recurses := true, plainKeys := false, apart := false, narrowed := true }
def ModelRunsUptoSaid : Prop := modelRunsUptoRow.holds Tryz.pinned (OpenSpec.upto modelRunsSpec)

/-- 'fretworklaw22.ModelWrong', WHERE WHAT IT READS IS OF BULK AT MOST 1048576: true; the input reads as it did. -/
def modelWrongUptoRow : OpenClaim := { program := "ytaefnmlbnkmahaagreat", sum := "a91edf4e5fd114952e9a6c53f6e080834ff24b87abac32e8c6c3a3093fe65949", func := "fretwork/fretworklaw22.ModelWrong", spec := "modelWrong", unfollowed := true, recurses := true, plainKeys := false, apart := false, narrowed := true }
def ModelWrongUptoSaid : Prop := modelWrongUptoRow.holds Tryz.pinned (OpenSpec.upto modelWrongSpec)

/-- 'fretworklaw22.ModelSteps', WHERE WHAT IT READS IS OF BULK AT MOST 1048576: true; the input reads as it did. -/
def modelStepsUptoRow : OpenClaim := { program := "ytaefnmlbnkmahaagreat", sum := "a91edf4e5fd114952e9a6c53f6e080834ff24b87abac32e8c6c3a3093fe65949", func := "fretwork/fretworklaw22.ModelSteps", spec := "modelSteps", unfollowed := true, recurses := true, plainKeys := false, apart := false, narrowed := true }
def ModelStepsUptoSaid : Prop := modelStepsUptoRow.holds Tryz.pinned (OpenSpec.upto modelStepsSpec)

/-- 'fretworklaw22.ModelLess', WHERE WHAT IT READS IS OF BULK AT MOST 1048576: true; the input reads as it did. -/
def modelLessUptoRow : OpenClaim := { program := "ytaefnmlbnkmahaagreat", sum := "a91edf4e5fd114952e9a6c53f6e080834ff24b87abac32e8c6c3a3093fe65949", func := "fretwork/fretworklaw22.ModelLess", spec := "modelLess", unfollowed := true, recurses := true, plainKeys := false, apart := false, narrowed := true }
def ModelLessUptoSaid : Prop := modelLessUptoRow.holds Tryz.pinned (OpenSpec.upto modelLessSpec)

/-- 'fretworklaw22.ModelEnds', WHERE WHAT IT READS IS OF BULK AT MOST 1048576: true; the input reads as it did. -/
def modelEndsUptoRow : OpenClaim := { program := "ytaefnmlbnkmahaagreat", sum := "a91edf4e5fd114952e9a6c53f6e080834ff24b87abac32e8c6c3a3093fe65949", func := "fretwork/fretworklaw22.ModelEnds", spec := "modelEnds", unfollowed := true, recurses := true, plainKeys := false, apart := false, narrowed := true }
def ModelEndsUptoSaid : Prop := modelEndsUptoRow.holds Tryz.pinned (OpenSpec.upto modelEndsSpec)

end Rows
end Go.Proofs.YtaefnmlbnkmahaaGreat
