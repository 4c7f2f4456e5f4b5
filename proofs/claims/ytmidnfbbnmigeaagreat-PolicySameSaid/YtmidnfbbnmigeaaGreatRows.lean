/-
  No cell of these rows narrows 'for every input' (looked for: loops, veiled, ifaces, maps, wideKeys, modest, calm, conditions, laid).
  DERIVED. THE GIVEN ROWS OF THIS SEAT. 4 by the template 'for every input the law returns true; each argument reads behind the call as it read before'; 0 by the template 'total and deterministic' (their statements: YtmidnfbbnmigeaaGreatTotals.lean).
  GIVEN WITH THE SEED: the statements are not yours to turn. If you find one false, say at which input.
  Laid BY PROGRAM, IN A SANDBOX (cutbox-rows.mjs): the forced cells as the released guide's own fill.sh prints them over the translation 44d0d4be9e050b21… (all of the seat's roots in one cut). By AI agents, Wed Nov 11 2026. No macro, syntax, notation, axiom, sorry.
-/
import Derived.Test.YtmidnfbbnmigeaaGreatChecked
import GoSem.Claim
import GoSem.ClaimJoined
import GoSem.ClaimMapViews
import Derived.JoinedTies
import Derived.KernelRfl
namespace Go.Proofs.YtmidnfbbnmigeaaGreat
/- THE CELL 'sum', in the pinned program and in every row, IS THE sha256 OF THE DUMP (.gsa) THAT YtmidnfbbnmigeaaGreatProg.lean LOADS. Nothing in Lean hashes anything: it is a label: what it is worth is what the hold of that sum in a sandbox is worth. -/
noncomputable def Tryz.pinned : Pinned := { name := "ytmidnfbbnmigeaagreat", sum := "44d0d4be9e050b2154a47923601202909ba336321c68d98aa765f08fec29fb98", checked := Tryz.checked }
namespace Rows
def none {H : Type} : Left H := { results := [], args := [] }

/-- 'fretworklaw16.PolicyPicks': WHATEVER THE INPUT: true; the input reads as it did. -/
def policyPicksSpec : ChangeSpec := { name := "policyPicks", fn := fun _ => fun
  | [d1, d2, d3] => { results := [.lit (.bool true)], args := [d1, d2, d3] }
  | _ => none }
def policyPicksRow : OpenClaim := { program := "ytmidnfbbnmigeaagreat", sum := "44d0d4be9e050b2154a47923601202909ba336321c68d98aa765f08fec29fb98", func := "fretwork/fretworklaw16.PolicyPicks", spec := "policyPicks", unfollowed := true, recurses := true, apart := false }
def PolicyPicksSaid : Prop := policyPicksRow.holds Tryz.pinned (OpenSpec.ofChange policyPicksSpec)

/-- ITS FALSE NEIGHBOUR: 'it returns false'. Refute it at one input. -/
def policyPicksWrong : ChangeSpec := { name := "policyPicks", fn := fun _ => fun
  | [d1, d2, d3] => { results := [.lit (.bool false)], args := [d1, d2, d3] }
  | _ => none }
def PolicyPicksWrongFalsely : Prop := policyPicksRow.holds Tryz.pinned (OpenSpec.ofChange policyPicksWrong)

/-- 'fretworklaw16.PolicyWrong': WHATEVER THE INPUT: true; the input reads as it did. -/
def policyWrongSpec : ChangeSpec := { name := "policyWrong", fn := fun _ => fun
  | [d1, d2, d3] => { results := [.lit (.bool true)], args := [d1, d2, d3] }
  | _ => none }
def policyWrongRow : OpenClaim := { program := "ytmidnfbbnmigeaagreat", sum := "44d0d4be9e050b2154a47923601202909ba336321c68d98aa765f08fec29fb98", func := "fretwork/fretworklaw16.PolicyWrong", spec := "policyWrong", unfollowed := true, recurses := true, apart := false }
def PolicyWrongSaid : Prop := policyWrongRow.holds Tryz.pinned (OpenSpec.ofChange policyWrongSpec)

/-- ITS FALSE NEIGHBOUR: 'it returns false'. Refute it at one input. -/
def policyWrongWrong : ChangeSpec := { name := "policyWrong", fn := fun _ => fun
  | [d1, d2, d3] => { results := [.lit (.bool false)], args := [d1, d2, d3] }
  | _ => none }
def PolicyWrongWrongFalsely : Prop := policyWrongRow.holds Tryz.pinned (OpenSpec.ofChange policyWrongWrong)

/-- 'fretworklaw16.PolicySizes': WHATEVER THE INPUT: true; the input reads as it did. -/
def policySizesSpec : ChangeSpec := { name := "policySizes", fn := fun _ => fun
  | [d1, d2, d3] => { results := [.lit (.bool true)], args := [d1, d2, d3] }
  | _ => none }
def policySizesRow : OpenClaim := { program := "ytmidnfbbnmigeaagreat", sum := "44d0d4be9e050b2154a47923601202909ba336321c68d98aa765f08fec29fb98", func := "fretwork/fretworklaw16.PolicySizes", spec := "policySizes", unfollowed := true, recurses := true, apart := false }
def PolicySizesSaid : Prop := policySizesRow.holds Tryz.pinned (OpenSpec.ofChange policySizesSpec)

/-- ITS FALSE NEIGHBOUR: 'it returns false'. Refute it at one input. -/
def policySizesWrong : ChangeSpec := { name := "policySizes", fn := fun _ => fun
  | [d1, d2, d3] => { results := [.lit (.bool false)], args := [d1, d2, d3] }
  | _ => none }
def PolicySizesWrongFalsely : Prop := policySizesRow.holds Tryz.pinned (OpenSpec.ofChange policySizesWrong)

/-- 'fretworklaw16.PolicySame': WHATEVER THE INPUT: true; the input reads as it did. -/
def policySameSpec : ChangeSpec := { name := "policySame", fn := fun _ => fun
  | [d1, d2, d3] => { results := [.lit (.bool true)], args := [d1, d2, d3] }
  | _ => none }
def policySameRow : OpenClaim := { program := "ytmidnfbbnmigeaagreat", sum := "44d0d4be9e050b2154a47923601202909ba336321c68d98aa765f08fec29fb98", func := "fretwork/fretworklaw16.PolicySame", spec := "policySame", unfollowed := true, recurses := true, apart := false }
def PolicySameSaid : Prop := policySameRow.holds Tryz.pinned (OpenSpec.ofChange policySameSpec)

/-- ITS FALSE NEIGHBOUR: 'it returns false'. Refute it at one input. -/
def policySameWrong : ChangeSpec := { name := "policySame", fn := fun _ => fun
  | [d1, d2, d3] => { results := [.lit (.bool false)], args := [d1, d2, d3] }
  | _ => none }
def PolicySameWrongFalsely : Prop := policySameRow.holds Tryz.pinned (OpenSpec.ofChange policySameWrong)

/- THE SECOND FORM. 'bulk': how many values and letters a reading holds, each counted each time it is reached (what is shared counts as often as it is met; a slice's spare places count too). A statement '..UptoSaid' is the law's where the arguments, and the package variables that the reading takes, are together of bulk at most 1048576: NARROWER than '..Said'. Prove '..Said' where nothing that the law and all that it calls make is longer than what came in: it says more and counts as full. Else prove '..UptoSaid'. A law counts once. -/
mutual
def uptoBulk {H : Type} : DataW H → Nat
  | .lit (.string bytes) => bytes.length + 1
  | .lit _ => 1
  | .nil => 1
  | .ptr d => uptoBulk d + 1
  | .slice elems spare => uptoBulkAll elems + uptoBulkAll spare + 1
  | .agg parts => uptoBulkAll parts + 1
  | .iface _ d => uptoBulk d + 1
  | .map entries => uptoBulkEntries entries + 1
  | .held _ => 1
def uptoBulkAll {H : Type} : List (DataW H) → Nat
  | [] => 0
  | d :: r => uptoBulk d + uptoBulkAll r
def uptoBulkEntries {H : Type} : List (Lit × DataW H) → Nat
  | [] => 0
  | x :: r => uptoBulkEntry x + uptoBulkEntries r
def uptoBulkEntry {H : Type} : Lit × DataW H → Nat
  | (.string bytes, d) => bytes.length + uptoBulk d + 1
  | (_, d) => uptoBulk d + 1
 end
def uptoSmall : (H : Type) → List (DataW H) → Bool := fun _ ds => decide (uptoBulkAll ds ≤ 1048576)
def OpenSpec.upto (s : _root_.Go.ChangeSpec) : _root_.Go.OpenSpec := { _root_.Go.OpenSpec.ofChange s with cond := some uptoSmall }

/-- 'fretworklaw16.PolicyPicks', WHERE WHAT IT READS IS OF BULK AT MOST 1048576: true; the input reads as it did. -/
def policyPicksUptoRow : OpenClaim := { program := "ytmidnfbbnmigeaagreat", sum := "44d0d4be9e050b2154a47923601202909ba336321c68d98aa765f08fec29fb98", func := "fretwork/fretworklaw16.PolicyPicks", spec := "policyPicks", unfollowed := true, recurses := true, apart := false, narrowed := true }
def PolicyPicksUptoSaid : Prop := policyPicksUptoRow.holds Tryz.pinned (OpenSpec.upto policyPicksSpec)

/-- 'fretworklaw16.PolicyWrong', WHERE WHAT IT READS IS OF BULK AT MOST 1048576: true; the input reads as it did. -/
def policyWrongUptoRow : OpenClaim := { program := "ytmidnfbbnmigeaagreat", sum := "44d0d4be9e050b2154a47923601202909ba336321c68d98aa765f08fec29fb98", func := "fretwork/fretworklaw16.PolicyWrong", spec := "policyWrong", unfollowed := true, recurses := true, apart := false, narrowed := true }
def PolicyWrongUptoSaid : Prop := policyWrongUptoRow.holds Tryz.pinned (OpenSpec.upto policyWrongSpec)

/-- 'fretworklaw16.PolicySizes', WHERE WHAT IT READS IS OF BULK AT MOST 1048576: true; the input reads as it did. -/
def policySizesUptoRow : OpenClaim := { program := "ytmidnfbbnmigeaagreat", sum := "44d0d4be9e050b2154a47923601202909ba336321c68d98aa765f08fec29fb98", func := "fretwork/fretworklaw16.PolicySizes", spec := "policySizes", unfollowed := true, recurses := true, apart := false, narrowed := true }
def PolicySizesUptoSaid : Prop := policySizesUptoRow.holds Tryz.pinned (OpenSpec.upto policySizesSpec)

/-- 'fretworklaw16.PolicySame', WHERE WHAT IT READS IS OF BULK AT MOST 1048576: true; the input reads as it did. -/
def policySameUptoRow : OpenClaim := { program := "ytmidnfbbnmigeaagreat", sum := "44d0d4be9e050b2154a47923601202909ba336321c68d98aa765f08fec29fb98", func := "fretwork/fretworklaw16.PolicySame", spec := "policySame", unfollowed := true, recurses := true, apart := false, narrowed := true }
def PolicySameUptoSaid : Prop := policySameUptoRow.holds Tryz.pinned (OpenSpec.upto policySameSpec)

end Rows
end Go.Proofs.YtmidnfbbnmigeaaGreat
