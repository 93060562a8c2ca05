/- What the arguments of the row stand for. Conditions: none but those ahead of each theorem. -/
import Derived.Test.YtickagjmjlnabaaWH4
import Derived.Test.YtickagjmjlnabaaWR0
namespace Go.Proofs.Ytickagjmjlnabaa
open Go Go.Vm Go.Proofs
theorem fnExactPlaceTold.law (es : List En) (h : es.length ≤ 9223372036854775807 ∧ ∀ e ∈ es, okE e) (xs : List Int) (h2 : xs.length ≤ 9223372036854775807) (a : Int) (_ha : (Lit.int .i64 a).wf = true) (b : Int) (_hb : (Lit.int .i64 b).wf = true) :
    Fx 8 [.fro none false (es.map eA), .fro none false (xs.map iA), .int .i64 a, .int .i64 b] (.bool true) := f8 es h.1 h.2 xs h2 a b
end Go.Proofs.Ytickagjmjlnabaa
