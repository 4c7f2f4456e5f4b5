/-
  No cell of these rows narrows 'for every input' (looked for: loops, veiled, ifaces, maps, wideKeys, modest, calm, conditions, laid).
  DERIVED. THE GIVEN ROWS OF THIS SEAT. 5 by the template 'for every input the law returns true; each argument reads behind the call as it read before'; 0 by the template 'total and deterministic' (their statements: YtjabmpfcpekpdaaGreatTotals.lean).
  GIVEN WITH THE SEED: the statements are not yours to turn. If you find one false, say at which input.
  Laid BY PROGRAM, IN A SANDBOX (cutbox-rows.mjs): the forced cells as the released guide's own fill.sh prints them over the translation bcf3a49407e1d8fc… (all of the seat's roots in one cut). By AI agents, Wed Nov 11 2026. No macro, syntax, notation, axiom, sorry.
-/
import Derived.Test.YtjabmpfcpekpdaaGreatChecked
import GoSem.Claim
import GoSem.ClaimJoined
import GoSem.ClaimMapViews
import Derived.JoinedTies
import Derived.KernelRfl
namespace Go.Proofs.YtjabmpfcpekpdaaGreat
/- THE CELL 'sum', in the pinned program and in every row, IS THE sha256 OF THE DUMP (.gsa) THAT YtjabmpfcpekpdaaGreatProg.lean LOADS. Nothing in Lean hashes anything: it is a label: what it is worth is what the hold of that sum in a sandbox is worth. -/
noncomputable def Tryz.pinned : Pinned := { name := "ytjabmpfcpekpdaagreat", sum := "bcf3a49407e1d8fcf13d4e2d95f3235d7cb351dc5541bb3da39e1e392691b7e2", checked := Tryz.checked }
namespace Rows
def none {H : Type} : Left H := { results := [], args := [] }

/-- 'fretworklaw15.GemmTells': WHATEVER THE INPUT: true; the input reads as it did. -/
def gemmTellsSpec : ChangeSpec := { name := "gemmTells", fn := fun _ => fun
  | [d] => { results := [.lit (.bool true)], args := [d] }
  | _ => none }
def gemmTellsRow : OpenClaim := { program := "ytjabmpfcpekpdaagreat", sum := "bcf3a49407e1d8fcf13d4e2d95f3235d7cb351dc5541bb3da39e1e392691b7e2", func := "fretwork/fretworklaw15.GemmTells", spec := "gemmTells", unfollowed := true, recurses := true, plainKeys := false, apart := false }
def GemmTellsSaid : Prop := gemmTellsRow.holds Tryz.pinned (OpenSpec.ofChange gemmTellsSpec)

/-- ITS FALSE NEIGHBOUR: 'it returns false'. Refute it at one input. -/
def gemmTellsWrong : ChangeSpec := { name := "gemmTells", fn := fun _ => fun
  | [d] => { results := [.lit (.bool false)], args := [d] }
  | _ => none }
def GemmTellsWrongFalsely : Prop := gemmTellsRow.holds Tryz.pinned (OpenSpec.ofChange gemmTellsWrong)

/-- 'fretworklaw15.GemmMerges': WHATEVER THE INPUT: true; the input reads as it did. -/
def gemmMergesSpec : ChangeSpec := { name := "gemmMerges", fn := fun _ => fun
  | [d1, d2, d3] => { results := [.lit (.bool true)], args := [d1, d2, d3] }
  | _ => none }
def gemmMergesRow : OpenClaim := { program := "ytjabmpfcpekpdaagreat", sum := "bcf3a49407e1d8fcf13d4e2d95f3235d7cb351dc5541bb3da39e1e392691b7e2", func := "fretwork/fretworklaw15.GemmMerges", spec := "gemmMerges", unfollowed := true, recurses := true, plainKeys := false, apart := false }
def GemmMergesSaid : Prop := gemmMergesRow.holds Tryz.pinned (OpenSpec.ofChange gemmMergesSpec)

/-- ITS FALSE NEIGHBOUR: 'it returns false'. Refute it at one input. -/
def gemmMergesWrong : ChangeSpec := { name := "gemmMerges", fn := fun _ => fun
  | [d1, d2, d3] => { results := [.lit (.bool false)], args := [d1, d2, d3] }
  | _ => none }
def GemmMergesWrongFalsely : Prop := gemmMergesRow.holds Tryz.pinned (OpenSpec.ofChange gemmMergesWrong)

/-- 'fretworklaw15.GemmParts': WHATEVER THE INPUT: true; the input reads as it did. -/
def gemmPartsSpec : ChangeSpec := { name := "gemmParts", fn := fun _ => fun
  | [d1, d2] => { results := [.lit (.bool true)], args := [d1, d2] }
  | _ => none }
def gemmPartsRow : OpenClaim := { program := "ytjabmpfcpekpdaagreat", sum := "bcf3a49407e1d8fcf13d4e2d95f3235d7cb351dc5541bb3da39e1e392691b7e2", func := "fretwork/fretworklaw15.GemmParts", spec := "gemmParts", unfollowed := true, recurses := true, plainKeys := false, apart := false }
def GemmPartsSaid : Prop := gemmPartsRow.holds Tryz.pinned (OpenSpec.ofChange gemmPartsSpec)

/-- ITS FALSE NEIGHBOUR: 'it returns false'. Refute it at one input. -/
def gemmPartsWrong : ChangeSpec := { name := "gemmParts", fn := fun _ => fun
  | [d1, d2] => { results := [.lit (.bool false)], args := [d1, d2] }
  | _ => none }
def GemmPartsWrongFalsely : Prop := gemmPartsRow.holds Tryz.pinned (OpenSpec.ofChange gemmPartsWrong)

/-- 'fretworklaw15.GemmTurns': WHATEVER THE INPUT: true; the input reads as it did. -/
def gemmTurnsSpec : ChangeSpec := { name := "gemmTurns", fn := fun _ => fun
  | [d] => { results := [.lit (.bool true)], args := [d] }
  | _ => none }
def gemmTurnsRow : OpenClaim := { program := "ytjabmpfcpekpdaagreat", sum := "bcf3a49407e1d8fcf13d4e2d95f3235d7cb351dc5541bb3da39e1e392691b7e2", func := "fretwork/fretworklaw15.GemmTurns", spec := "gemmTurns", unfollowed := true, recurses := true, plainKeys := false, apart := false }
def GemmTurnsSaid : Prop := gemmTurnsRow.holds Tryz.pinned (OpenSpec.ofChange gemmTurnsSpec)

/-- ITS FALSE NEIGHBOUR: 'it returns false'. Refute it at one input. -/
def gemmTurnsWrong : ChangeSpec := { name := "gemmTurns", fn := fun _ => fun
  | [d] => { results := [.lit (.bool false)], args := [d] }
  | _ => none }
def GemmTurnsWrongFalsely : Prop := gemmTurnsRow.holds Tryz.pinned (OpenSpec.ofChange gemmTurnsWrong)

/-- 'fretworklaw15.GemmColumns': WHATEVER THE INPUT: true; the input reads as it did. -/
def gemmColumnsSpec : ChangeSpec := { name := "gemmColumns", fn := fun _ => fun
  | [d1, d2] => { results := [.lit (.bool true)], args := [d1, d2] }
  | _ => none }
def gemmColumnsRow : OpenClaim := { program := "ytjabmpfcpekpdaagreat", sum := "bcf3a49407e1d8fcf13d4e2d95f3235d7cb351dc5541bb3da39e1e392691b7e2", func := "fretwork/fretworklaw15.GemmColumns", spec := "gemmColumns", unfollowed := true, recurses := true, plainKeys := false, apart := false }
def GemmColumnsSaid : Prop := gemmColumnsRow.holds Tryz.pinned (OpenSpec.ofChange gemmColumnsSpec)

/-- ITS FALSE NEIGHBOUR: 'it returns false'. Refute it at one input. -/
def gemmColumnsWrong : ChangeSpec := { name := "gemmColumns", fn := fun _ => fun
  | [d1, d2] => { results := [.lit (.bool false)], args := [d1, d2] }
  | _ => none }
def GemmColumnsWrongFalsely : Prop := gemmColumnsRow.holds Tryz.pinned (OpenSpec.ofChange gemmColumnsWrong)

/- THE SECOND FORM. 'bulk': how many values and letters a reading holds, each counted each time it is reached (what is shared counts as often as it is met; a slice's spare places count too). A statement '..UptoSaid' is the law's where the arguments, and the package variables that the reading takes, are together of bulk at most 1048576: NARROWER than '..Said'. Prove '..Said' where nothing that the law and all that it calls make is longer than what came in: it says more and counts as full. Else prove '..UptoSaid'. A law counts once. -/
mutual
def uptoBulk {H : Type} : DataW H → Nat
  | .lit (.string bytes) => bytes.length + 1
  | .lit _ => 1
  | .nil => 1
  | .ptr d => uptoBulk d + 1
  | .slice elems spare => uptoBulkAll elems + uptoBulkAll spare + 1
  | .agg parts => uptoBulkAll parts + 1
  | .iface _ d => uptoBulk d + 1
  | .map entries => uptoBulkEntries entries + 1
  | .held _ => 1
def uptoBulkAll {H : Type} : List (DataW H) → Nat
  | [] => 0
  | d :: r => uptoBulk d + uptoBulkAll r
def uptoBulkEntries {H : Type} : List (Lit × DataW H) → Nat
  | [] => 0
  | x :: r => uptoBulkEntry x + uptoBulkEntries r
def uptoBulkEntry {H : Type} : Lit × DataW H → Nat
  | (.string bytes, d) => bytes.length + uptoBulk d + 1
  | (_, d) => uptoBulk d + 1
 end
def uptoSmall : (H : Type) → List (DataW H) → Bool := fun _ ds => decide (uptoBulkAll ds ≤ 1048576)
def OpenSpec.upto (s : _root_.Go.ChangeSpec) : _root_.Go.OpenSpec := { _root_.Go.OpenSpec.ofChange s with cond := some uptoSmall }

/-- 'fretworklaw15.GemmTells', WHERE WHAT IT READS IS OF BULK AT MOST 1048576: true; the input reads as it did. -/
def gemmTellsUptoRow : OpenClaim := { program := "ytjabmpfcpekpdaagreat", sum := "bcf3a49407e1d8fcf13d4e2d95f3235d7cb351dc5541bb3da39e1e392691b7e2", func := "fretwork/fretworklaw15.GemmTells", spec := "gemmTells", unfollowed := true, recurses := true, plainKeys := false, apart := false, narrowed := true }
def GemmTellsUptoSaid : Prop := gemmTellsUptoRow.holds Tryz.pinned (OpenSpec.upto gemmTellsSpec)

/-- 'fretworklaw15.GemmMerges', WHERE WHAT IT READS IS OF BULK AT MOST 1048576: true; the input reads as it did. -/
def gemmMergesUptoRow : OpenClaim := { program := "ytjabmpfcpekpdaagreat", sum := "bcf3a49407e1d8fcf13d4e2d95f3235d7cb351dc5541bb3da39e1e392691b7e2", func := "fretwork/fretworklaw15.GemmMerges", spec := "gemmMerges", unfollowed := true, recurses := true, plainKeys := false, apart := false, narrowed := true }
def GemmMergesUptoSaid : Prop := gemmMergesUptoRow.holds Tryz.pinned (OpenSpec.upto gemmMergesSpec)

/-- 'fretworklaw15.GemmParts', WHERE WHAT IT READS IS OF BULK AT MOST 1048576: true; the input reads as it did. -/
def gemmPartsUptoRow : OpenClaim := { program := "ytjabmpfcpekpdaagreat", sum := "bcf3a49407e1d8fcf13d4e2d95f3235d7cb351dc5541bb3da39e1e392691b7e2", func := "fretwork/fretworklaw15.GemmParts", spec := "gemmParts", unfollowed := true, recurses := true, plainKeys := false, apart := false, narrowed := true }
def GemmPartsUptoSaid : Prop := gemmPartsUptoRow.holds Tryz.pinned (OpenSpec.upto gemmPartsSpec)

/-- 'fretworklaw15.GemmTurns', WHERE WHAT IT READS IS OF BULK AT MOST 1048576: true; the input reads as it did. -/
def gemmTurnsUptoRow : OpenClaim := { program := "ytjabmpfcpekpdaagreat", sum := "bcf3a49407e1d8fcf13d4e2d95f3235d7cb351dc5541bb3da39e1e392691b7e2", func := "fretwork/fretworklaw15.GemmTurns", spec := "gemmTurns", unfollowed := true, recurses := true, plainKeys := false, apart := false, narrowed := true }
def GemmTurnsUptoSaid : Prop := gemmTurnsUptoRow.holds Tryz.pinned (OpenSpec.upto gemmTurnsSpec)

/-- 'fretworklaw15.GemmColumns', WHERE WHAT IT READS IS OF BULK AT MOST 1048576: true; the input reads as it did. -/
def gemmColumnsUptoRow : OpenClaim := { program := "ytjabmpfcpekpdaagreat", sum := "bcf3a49407e1d8fcf13d4e2d95f3235d7cb351dc5541bb3da39e1e392691b7e2", func := "fretwork/fretworklaw15.GemmColumns", spec := "gemmColumns", unfollowed := true, recurses := true, plainKeys := false, apart := false, narrowed := true }
def GemmColumnsUptoSaid : Prop := gemmColumnsUptoRow.holds Tryz.pinned (OpenSpec.upto gemmColumnsSpec)

end Rows
end Go.Proofs.YtjabmpfcpekpdaaGreat
