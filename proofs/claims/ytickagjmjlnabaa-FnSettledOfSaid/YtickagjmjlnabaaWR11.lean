/- What the arguments of the row stand for. Conditions: none but those ahead of each theorem. -/
import Derived.Test.YtickagjmjlnabaaWG8
import Derived.Test.YtickagjmjlnabaaWR0
namespace Go.Proofs.Ytickagjmjlnabaa
open Go Go.Vm Go.Proofs
theorem fnSettledOf.law (xs : List UInt8) (h : xs.length ≤ 9223372036854775807) : Fx 11 [.fro none false (xs.map bA)] (.bool true) := f11 xs h
end Go.Proofs.Ytickagjmjlnabaa
