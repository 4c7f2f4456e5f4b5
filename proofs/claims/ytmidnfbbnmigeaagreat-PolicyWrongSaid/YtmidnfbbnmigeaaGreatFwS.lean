/- The engine, part S: slices.SortFunc over own slices of flat structs, by the kit's shelf. -/
import Derived.Test.YtmidnfbbnmigeaaGreatFwP
import Derived.Shelf.SlSortCmp.WholeK
import Derived.Shelf.SlSortCmp.NoneTotal
namespace Go.Fw
open Go Go.RowKit Go.Shelf Go.Lib Go.Sort Go.Proofs
variable {P : Program} {α : Type}
def sortP (ord : α → α → (Int → Prop) → Prop) (xs : List α) (K : List α → Prop) : Prop :=
  ∃ cf : α → α → Int, (∀ x y (Q : Int → Prop), Q (cf x y) → ord x y Q) ∧ SWO (ltOf cf) ∧ xs.length < 4611686018427387904 ∧ ∀ ys : List α, ys.Perm xs → ys.Pairwise (fun x y => 0 ≤ cf y x) → K ys
end Go.Fw
