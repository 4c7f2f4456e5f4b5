/- What must be whatever is asked; the statements CsrOf, CsrAsks, in plain Lean. -/
import Derived.Test.YtjobeiikppmidaaGreatOK
import Derived.Test.YtjobeiikppmidaaGreatCsrI
namespace Go.Proofs.YtjobeiikppmidaaGreat
open Go Go.Fw
set_option linter.unusedVariables false
set_option linter.unusedSimpArgs false
theorem inR_i64 {x : Int} (h : inR .i64 x) : inI x := by have := bounds_i64 h; unfold inI; omega
end Go.Proofs.YtjobeiikppmidaaGreat
