/- What the arguments of the row stand for. Conditions: none but those ahead of each theorem. -/
import Derived.Test.YtfimolakepbdbaaWE8
import Derived.Test.YtfimolakepbdbaaWR0
namespace Go.Proofs.Ytfimolakepbdbaa
open Go Go.Vm Go.Proofs
theorem fnExactWindowRun.law (xs : List (List Val)) (h : xs.length ≤ 9223372036854775807 ∧ ∀ r ∈ xs, okR r) : Fx 8 [.fro none false (xs.map rA)] (.bool true) := f8 xs false h.1 h.2
end Go.Proofs.Ytfimolakepbdbaa
