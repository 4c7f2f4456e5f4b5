/-
  No cell of these rows narrows 'for every input' (looked for: loops, veiled, ifaces, maps, wideKeys, modest, calm, conditions, laid).
  DERIVED. THE GIVEN ROWS OF THIS SEAT. 10 by the template 'for every input the law returns true; each argument reads behind the call as it read before'; 0 by the template 'total and deterministic' (their statements: YtbohadngdkjljaaGreatTotals.lean).
  GIVEN WITH THE SEED: the statements are not yours to turn. If you find one false, say at which input.
  Laid BY PROGRAM, IN A SANDBOX (cutbox-rows.mjs): the forced cells as the released guide's own fill.sh prints them over the translation b8f2d29c6abbda49… (all of the seat's roots in one cut). By AI agents, Wed Nov 11 2026. No macro, syntax, notation, axiom, sorry.
-/
import Derived.Test.YtbohadngdkjljaaGreatChecked
import GoSem.Claim
import GoSem.ClaimJoined
import GoSem.ClaimMapViews
import Derived.JoinedTies
import Derived.KernelRfl
namespace Go.Proofs.YtbohadngdkjljaaGreat
/- THE CELL 'sum', in the pinned program and in every row, IS THE sha256 OF THE DUMP (.gsa) THAT YtbohadngdkjljaaGreatProg.lean LOADS. Nothing in Lean hashes anything: it is a label: what it is worth is what the hold of that sum in a sandbox is worth. -/
noncomputable def Tryz.pinned : Pinned := { name := "ytbohadngdkjljaagreat", sum := "b8f2d29c6abbda49f7273f0f8bcffc8d352d6dbdd11fee412cda6bb3d9fefd8d", checked := Tryz.checked }
namespace Rows
def none {H : Type} : Left H := { results := [], args := [] }

/-- 'fretworktop.TopCubed': WHATEVER THE INPUT: true; the input reads as it did. -/
def topCubedSpec : ChangeSpec := { name := "topCubed", fn := fun _ => fun
  | [d1, d2, d3] => { results := [.lit (.bool true)], args := [d1, d2, d3] }
  | _ => none }
def topCubedRow : OpenClaim := { program := "ytbohadngdkjljaagreat", sum := "b8f2d29c6abbda49f7273f0f8bcffc8d352d6dbdd11fee412cda6bb3d9fefd8d", func := "fretwork/fretworktop.TopCubed", spec := "topCubed", unfollowed := true, recurses := true, plainKeys := false, apart := false }
def TopCubedSaid : Prop := topCubedRow.holds Tryz.pinned (OpenSpec.ofChange topCubedSpec)

/-- ITS FALSE NEIGHBOUR: 'it returns false'. Refute it at one input. -/
def topCubedWrong : ChangeSpec := { name := "topCubed", fn := fun _ => fun
  | [d1, d2, d3] => { results := [.lit (.bool false)], args := [d1, d2, d3] }
  | _ => none }
def TopCubedWrongFalsely : Prop := topCubedRow.holds Tryz.pinned (OpenSpec.ofChange topCubedWrong)

/-- 'fretworklaw26.SummaPlays': WHATEVER THE INPUT: true; the input reads as it did. -/
def summaPlaysSpec : ChangeSpec := { name := "summaPlays", fn := fun _ => fun
  | [d1, d2] => { results := [.lit (.bool true)], args := [d1, d2] }
  | _ => none }
def summaPlaysRow : OpenClaim := { program := "ytbohadngdkjljaagreat", sum := "b8f2d29c6abbda49f7273f0f8bcffc8d352d6dbdd11fee412cda6bb3d9fefd8d", func := "fretwork/fretworklaw26.SummaPlays", spec := "summaPlays", unfollowed := true, recurses := true, plainKeys := false, apart := false }
def SummaPlaysSaid : Prop := summaPlaysRow.holds Tryz.pinned (OpenSpec.ofChange summaPlaysSpec)

/-- ITS FALSE NEIGHBOUR: 'it returns false'. Refute it at one input. -/
def summaPlaysWrong : ChangeSpec := { name := "summaPlays", fn := fun _ => fun
  | [d1, d2] => { results := [.lit (.bool false)], args := [d1, d2] }
  | _ => none }
def SummaPlaysWrongFalsely : Prop := summaPlaysRow.holds Tryz.pinned (OpenSpec.ofChange summaPlaysWrong)

/-- 'fretworklaw26.SummaRuns': WHATEVER THE INPUT: true; the input reads as it did. -/
def summaRunsSpec : ChangeSpec := { name := "summaRuns", fn := fun _ => fun
  | [d1, d2, d3] => { results := [.lit (.bool true)], args := [d1, d2, d3] }
  | _ => none }
def summaRunsRow : OpenClaim := { program := "ytbohadngdkjljaagreat", sum := "b8f2d29c6abbda49f7273f0f8bcffc8d352d6dbdd11fee412cda6bb3d9fefd8d", func := "fretwork/fretworklaw26.SummaRuns", spec := "summaRuns", unfollowed := true, recurses := true, plainKeys := false, apart := false }
def SummaRunsSaid : Prop := summaRunsRow.holds Tryz.pinned (OpenSpec.ofChange summaRunsSpec)

/-- ITS FALSE NEIGHBOUR: 'it returns false'. Refute it at one input. -/
def summaRunsWrong : ChangeSpec := { name := "summaRuns", fn := fun _ => fun
  | [d1, d2, d3] => { results := [.lit (.bool false)], args := [d1, d2, d3] }
  | _ => none }
def SummaRunsWrongFalsely : Prop := summaRunsRow.holds Tryz.pinned (OpenSpec.ofChange summaRunsWrong)

/-- 'fretworklaw26.SummaOne': WHATEVER THE INPUT: true; the input reads as it did. -/
def summaOneSpec : ChangeSpec := { name := "summaOne", fn := fun _ => fun
  | [d1, d2] => { results := [.lit (.bool true)], args := [d1, d2] }
  | _ => none }
def summaOneRow : OpenClaim := { program := "ytbohadngdkjljaagreat", sum := "b8f2d29c6abbda49f7273f0f8bcffc8d352d6dbdd11fee412cda6bb3d9fefd8d", func := "fretwork/fretworklaw26.SummaOne", spec := "summaOne", unfollowed := true, recurses := true, plainKeys := false, apart := false }
def SummaOneSaid : Prop := summaOneRow.holds Tryz.pinned (OpenSpec.ofChange summaOneSpec)

/-- ITS FALSE NEIGHBOUR: 'it returns false'. Refute it at one input. -/
def summaOneWrong : ChangeSpec := { name := "summaOne", fn := fun _ => fun
  | [d1, d2] => { results := [.lit (.bool false)], args := [d1, d2] }
  | _ => none }
def SummaOneWrongFalsely : Prop := summaOneRow.holds Tryz.pinned (OpenSpec.ofChange summaOneWrong)

/-- 'fretworklaw26.SummaFair': WHATEVER THE INPUT: true; the input reads as it did. -/
def summaFairSpec : ChangeSpec := { name := "summaFair", fn := fun _ => fun
  | [d1, d2, d3] => { results := [.lit (.bool true)], args := [d1, d2, d3] }
  | _ => none }
def summaFairRow : OpenClaim := { program := "ytbohadngdkjljaagreat", sum := "b8f2d29c6abbda49f7273f0f8bcffc8d352d6dbdd11fee412cda6bb3d9fefd8d", func := "fretwork/fretworklaw26.SummaFair", spec := "summaFair", unfollowed := true, recurses := true, plainKeys := false, apart := false }
def SummaFairSaid : Prop := summaFairRow.holds Tryz.pinned (OpenSpec.ofChange summaFairSpec)

/-- ITS FALSE NEIGHBOUR: 'it returns false'. Refute it at one input. -/
def summaFairWrong : ChangeSpec := { name := "summaFair", fn := fun _ => fun
  | [d1, d2, d3] => { results := [.lit (.bool false)], args := [d1, d2, d3] }
  | _ => none }
def SummaFairWrongFalsely : Prop := summaFairRow.holds Tryz.pinned (OpenSpec.ofChange summaFairWrong)

/-- 'fretworklaw26.SummaBounds': WHATEVER THE INPUT: true; the input reads as it did. -/
def summaBoundsSpec : ChangeSpec := { name := "summaBounds", fn := fun _ => fun
  | [d1, d2] => { results := [.lit (.bool true)], args := [d1, d2] }
  | _ => none }
def summaBoundsRow : OpenClaim := { program := "ytbohadngdkjljaagreat", sum := "b8f2d29c6abbda49f7273f0f8bcffc8d352d6dbdd11fee412cda6bb3d9fefd8d", func := "fretwork/fretworklaw26.SummaBounds", spec := "summaBounds", unfollowed := true, recurses := true, plainKeys := false, apart := false }
def SummaBoundsSaid : Prop := summaBoundsRow.holds Tryz.pinned (OpenSpec.ofChange summaBoundsSpec)

/-- ITS FALSE NEIGHBOUR: 'it returns false'. Refute it at one input. -/
def summaBoundsWrong : ChangeSpec := { name := "summaBounds", fn := fun _ => fun
  | [d1, d2] => { results := [.lit (.bool false)], args := [d1, d2] }
  | _ => none }
def SummaBoundsWrongFalsely : Prop := summaBoundsRow.holds Tryz.pinned (OpenSpec.ofChange summaBoundsWrong)

/-- 'fretworklaw30.TriRuns': WHATEVER THE INPUT: true; the input reads as it did. -/
def triRunsSpec : ChangeSpec := { name := "triRuns", fn := fun _ => fun
  | [d] => { results := [.lit (.bool true)], args := [d] }
  | _ => none }
def triRunsRow : OpenClaim := { program := "ytbohadngdkjljaagreat", sum := "b8f2d29c6abbda49f7273f0f8bcffc8d352d6dbdd11fee412cda6bb3d9fefd8d", func := "fretwork/fretworklaw30.TriRuns", spec := "triRuns", unfollowed := true, recurses := true, plainKeys := false, apart := false }
def TriRunsSaid : Prop := triRunsRow.holds Tryz.pinned (OpenSpec.ofChange triRunsSpec)

/-- ITS FALSE NEIGHBOUR: 'it returns false'. Refute it at one input. -/
def triRunsWrong : ChangeSpec := { name := "triRuns", fn := fun _ => fun
  | [d] => { results := [.lit (.bool false)], args := [d] }
  | _ => none }
def TriRunsWrongFalsely : Prop := triRunsRow.holds Tryz.pinned (OpenSpec.ofChange triRunsWrong)

/-- 'fretworklaw30.TriLists': WHATEVER THE INPUT: true; the input reads as it did. -/
def triListsSpec : ChangeSpec := { name := "triLists", fn := fun _ => fun
  | [d1, d2, d3] => { results := [.lit (.bool true)], args := [d1, d2, d3] }
  | _ => none }
def triListsRow : OpenClaim := { program := "ytbohadngdkjljaagreat", sum := "b8f2d29c6abbda49f7273f0f8bcffc8d352d6dbdd11fee412cda6bb3d9fefd8d", func := "fretwork/fretworklaw30.TriLists", spec := "triLists", unfollowed := true, recurses := true, plainKeys := false, apart := false }
def TriListsSaid : Prop := triListsRow.holds Tryz.pinned (OpenSpec.ofChange triListsSpec)

/-- ITS FALSE NEIGHBOUR: 'it returns false'. Refute it at one input. -/
def triListsWrong : ChangeSpec := { name := "triLists", fn := fun _ => fun
  | [d1, d2, d3] => { results := [.lit (.bool false)], args := [d1, d2, d3] }
  | _ => none }
def TriListsWrongFalsely : Prop := triListsRow.holds Tryz.pinned (OpenSpec.ofChange triListsWrong)

/-- 'fretworklaw30.TriSums': WHATEVER THE INPUT: true; the input reads as it did. -/
def triSumsSpec : ChangeSpec := { name := "triSums", fn := fun _ => fun
  | [d] => { results := [.lit (.bool true)], args := [d] }
  | _ => none }
def triSumsRow : OpenClaim := { program := "ytbohadngdkjljaagreat", sum := "b8f2d29c6abbda49f7273f0f8bcffc8d352d6dbdd11fee412cda6bb3d9fefd8d", func := "fretwork/fretworklaw30.TriSums", spec := "triSums", unfollowed := true, recurses := true, plainKeys := false, apart := false }
def TriSumsSaid : Prop := triSumsRow.holds Tryz.pinned (OpenSpec.ofChange triSumsSpec)

/-- ITS FALSE NEIGHBOUR: 'it returns false'. Refute it at one input. -/
def triSumsWrong : ChangeSpec := { name := "triSums", fn := fun _ => fun
  | [d] => { results := [.lit (.bool false)], args := [d] }
  | _ => none }
def TriSumsWrongFalsely : Prop := triSumsRow.holds Tryz.pinned (OpenSpec.ofChange triSumsWrong)

/-- 'fretworklaw30.TriSame': WHATEVER THE INPUT: true; the input reads as it did. -/
def triSameSpec : ChangeSpec := { name := "triSame", fn := fun _ => fun
  | [d1, d2] => { results := [.lit (.bool true)], args := [d1, d2] }
  | _ => none }
def triSameRow : OpenClaim := { program := "ytbohadngdkjljaagreat", sum := "b8f2d29c6abbda49f7273f0f8bcffc8d352d6dbdd11fee412cda6bb3d9fefd8d", func := "fretwork/fretworklaw30.TriSame", spec := "triSame", unfollowed := true, recurses := true, plainKeys := false, apart := false }
def TriSameSaid : Prop := triSameRow.holds Tryz.pinned (OpenSpec.ofChange triSameSpec)

/-- ITS FALSE NEIGHBOUR: 'it returns false'. Refute it at one input. -/
def triSameWrong : ChangeSpec := { name := "triSame", fn := fun _ => fun
  | [d1, d2] => { results := [.lit (.bool false)], args := [d1, d2] }
  | _ => none }
def TriSameWrongFalsely : Prop := triSameRow.holds Tryz.pinned (OpenSpec.ofChange triSameWrong)

/- THE SECOND FORM. 'bulk': how many values and letters a reading holds, each counted each time it is reached (what is shared counts as often as it is met; a slice's spare places count too). A statement '..UptoSaid' is the law's where the arguments, and the package variables that the reading takes, are together of bulk at most 1048576: NARROWER than '..Said'. Prove '..Said' where nothing that the law and all that it calls make is longer than what came in: it says more and counts as full. Else prove '..UptoSaid'. A law counts once. -/
mutual
def uptoBulk {H : Type} : DataW H → Nat
  | .lit (.string bytes) => bytes.length + 1
  | .lit _ => 1
  | .nil => 1
  | .ptr d => uptoBulk d + 1
  | .slice elems spare => uptoBulkAll elems + uptoBulkAll spare + 1
  | .agg parts => uptoBulkAll parts + 1
  | .iface _ d => uptoBulk d + 1
  | .map entries => uptoBulkEntries entries + 1
  | .held _ => 1
def uptoBulkAll {H : Type} : List (DataW H) → Nat
  | [] => 0
  | d :: r => uptoBulk d + uptoBulkAll r
def uptoBulkEntries {H : Type} : List (Lit × DataW H) → Nat
  | [] => 0
  | x :: r => uptoBulkEntry x + uptoBulkEntries r
def uptoBulkEntry {H : Type} : Lit × DataW H → Nat
  | (.string bytes, d) => bytes.length + uptoBulk d + 1
  | (_, d) => uptoBulk d + 1
 end
def uptoSmall : (H : Type) → List (DataW H) → Bool := fun _ ds => decide (uptoBulkAll ds ≤ 1048576)
def OpenSpec.upto (s : _root_.Go.ChangeSpec) : _root_.Go.OpenSpec := { _root_.Go.OpenSpec.ofChange s with cond := some uptoSmall }

/-- 'fretworktop.TopCubed', WHERE WHAT IT READS IS OF BULK AT MOST 1048576: true; the input reads as it did. -/
def topCubedUptoRow : OpenClaim := { program := "ytbohadngdkjljaagreat", sum := "b8f2d29c6abbda49f7273f0f8bcffc8d352d6dbdd11fee412cda6bb3d9fefd8d", func := "fretwork/fretworktop.TopCubed", spec := "topCubed", unfollowed := true, recurses := true, plainKeys := false, apart := false, narrowed := true }
def TopCubedUptoSaid : Prop := topCubedUptoRow.holds Tryz.pinned (OpenSpec.upto topCubedSpec)

/-- 'fretworklaw26.SummaPlays', WHERE WHAT IT READS IS OF BULK AT MOST 1048576: true; the input reads as it did. -/
def summaPlaysUptoRow : OpenClaim := { program := "ytbohadngdkjljaagreat", sum := "b8f2d29c6abbda49f7273f0f8bcffc8d352d6dbdd11fee412cda6bb3d9fefd8d", func := "fretwork/fretworklaw26.SummaPlays", spec := "summaPlays", unfollowed := true, recurses := true, plainKeys := false, apart := false, narrowed := true }
def SummaPlaysUptoSaid : Prop := summaPlaysUptoRow.holds Tryz.pinned (OpenSpec.upto summaPlaysSpec)

/-- 'fretworklaw26.SummaRuns', WHERE WHAT IT READS IS OF BULK AT MOST 1048576: true; the input reads as it did. -/
def summaRunsUptoRow : OpenClaim := { program := "ytbohadngdkjljaagreat", sum := "b8f2d29c6abbda49f7273f0f8bcffc8d352d6dbdd11fee412cda6bb3d9fefd8d", func := "fretwork/fretworklaw26.SummaRuns", spec := "summaRuns", unfollowed := true, recurses := true, plainKeys := false, apart := false, narrowed := true }
def SummaRunsUptoSaid : Prop := summaRunsUptoRow.holds Tryz.pinned (OpenSpec.upto summaRunsSpec)

/-- 'fretworklaw26.SummaOne', WHERE WHAT IT READS IS OF BULK AT MOST 1048576: true; the input reads as it did. -/
def summaOneUptoRow : OpenClaim := { program := "ytbohadngdkjljaagreat", sum := "b8f2d29c6abbda49f7273f0f8bcffc8d352d6dbdd11fee412cda6bb3d9fefd8d", func := "fretwork/fretworklaw26.SummaOne", spec := "summaOne", unfollowed := true, recurses := true, plainKeys := false, apart := false, narrowed := true }
def SummaOneUptoSaid : Prop := summaOneUptoRow.holds Tryz.pinned (OpenSpec.upto summaOneSpec)

/-- 'fretworklaw26.SummaFair', WHERE WHAT IT READS IS OF BULK AT MOST 1048576: true; the input reads as it did. -/
def summaFairUptoRow : OpenClaim := { program := "ytbohadngdkjljaagreat", sum := "b8f2d29c6abbda49f7273f0f8bcffc8d352d6dbdd11fee412cda6bb3d9fefd8d", func := "fretwork/fretworklaw26.SummaFair", spec := "summaFair", unfollowed := true, recurses := true, plainKeys := false, apart := false, narrowed := true }
def SummaFairUptoSaid : Prop := summaFairUptoRow.holds Tryz.pinned (OpenSpec.upto summaFairSpec)

/-- 'fretworklaw26.SummaBounds', WHERE WHAT IT READS IS OF BULK AT MOST 1048576: true; the input reads as it did. -/
def summaBoundsUptoRow : OpenClaim := { program := "ytbohadngdkjljaagreat", sum := "b8f2d29c6abbda49f7273f0f8bcffc8d352d6dbdd11fee412cda6bb3d9fefd8d", func := "fretwork/fretworklaw26.SummaBounds", spec := "summaBounds", unfollowed := true, recurses := true, plainKeys := false, apart := false, narrowed := true }
def SummaBoundsUptoSaid : Prop := summaBoundsUptoRow.holds Tryz.pinned (OpenSpec.upto summaBoundsSpec)

/-- 'fretworklaw30.TriRuns', WHERE WHAT IT READS IS OF BULK AT MOST 1048576: true; the input reads as it did. -/
def triRunsUptoRow : OpenClaim := { program := "ytbohadngdkjljaagreat", sum := "b8f2d29c6abbda49f7273f0f8bcffc8d352d6dbdd11fee412cda6bb3d9fefd8d", func := "fretwork/fretworklaw30.TriRuns", spec := "triRuns", unfollowed := true, recurses := true, plainKeys := false, apart := false, narrowed := true }
def TriRunsUptoSaid : Prop := triRunsUptoRow.holds Tryz.pinned (OpenSpec.upto triRunsSpec)

/-- 'fretworklaw30.TriLists', WHERE WHAT IT READS IS OF BULK AT MOST 1048576: true; the input reads as it did. -/
def triListsUptoRow : OpenClaim := { program := "ytbohadngdkjljaagreat", sum := "b8f2d29c6abbda49f7273f0f8bcffc8d352d6dbdd11fee412cda6bb3d9fefd8d", func := "fretwork/fretworklaw30.TriLists", spec := "triLists", unfollowed := true, recurses := true, plainKeys := false, apart := false, narrowed := true }
def TriListsUptoSaid : Prop := triListsUptoRow.holds Tryz.pinned (OpenSpec.upto triListsSpec)

/-- 'fretworklaw30.TriSums', WHERE WHAT IT READS IS OF BULK AT MOST 1048576: true; the input reads as it did. -/
def triSumsUptoRow : OpenClaim := { program := "ytbohadngdkjljaagreat", sum := "b8f2d29c6abbda49f7273f0f8bcffc8d352d6dbdd11fee412cda6bb3d9fefd8d", func := "fretwork/fretworklaw30.TriSums", spec := "triSums", unfollowed := true, recurses := true, plainKeys := false, apart := false, narrowed := true }
def TriSumsUptoSaid : Prop := triSumsUptoRow.holds Tryz.pinned (OpenSpec.upto triSumsSpec)

/-- 'fretworklaw30.TriSame', WHERE WHAT IT READS IS OF BULK AT MOST 1048576: true; the input reads as it did. -/
def triSameUptoRow : OpenClaim := { program := "ytbohadngdkjljaagreat", sum := "b8f2d29c6abbda49f7273f0f8bcffc8d352d6dbdd11fee412cda6bb3d9fefd8d", func := "fretwork/fretworklaw30.TriSame", spec := "triSame", unfollowed := true, recurses := true, plainKeys := false, apart := false, narrowed := true }
def TriSameUptoSaid : Prop := triSameUptoRow.holds Tryz.pinned (OpenSpec.upto triSameSpec)

end Rows
end Go.Proofs.YtbohadngdkjljaaGreat
