/- What the arguments of the row stand for. Conditions: none but those ahead of each theorem. -/
import Derived.Test.YtickagjmjlnabaaWI2
import Derived.Test.YtickagjmjlnabaaWR0
namespace Go.Proofs.Ytickagjmjlnabaa
open Go Go.Vm Go.Proofs
theorem fnExactSettledOf.law (es : List En) (h : es.length ≤ 9223372036854775807 ∧ ∀ e ∈ es, okE e) (ps : List Int) (h2 : ps.length ≤ 9223372036854775807) :
    Fx 10 [.fro none false (es.map eA), .fro none false (ps.map iA)] (.bool true) := f10 es h.1 h.2 ps h2
end Go.Proofs.Ytickagjmjlnabaa
