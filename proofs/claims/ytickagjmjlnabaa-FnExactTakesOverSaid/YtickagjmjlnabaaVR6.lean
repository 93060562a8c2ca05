/- What the arguments of the row stand for. Conditions: none but those ahead of each theorem. -/
import Derived.Test.YtickagjmjlnabaaVF11
import Derived.Test.YtickagjmjlnabaaVR4
namespace Go.Proofs.Ytickagjmjlnabaa
open Go Go.Vm Go.Proofs
theorem fnExactTakesOver.law (es : List En) (h : es.length ≤ 9223372036854775807 ∧ ∀ e ∈ es, okE e) (xs : List Int) (h2 : xs.length ≤ 9223372036854775807) (ys : List Int) (h3 : ys.length ≤ 9223372036854775807) :
    Fx 6 [.fro none false (es.map eA), .fro none false (xs.map iA), .fro none false (ys.map iA)] (.bool true) := f6 es h.1 h.2 xs ys h2 h3
end Go.Proofs.Ytickagjmjlnabaa
