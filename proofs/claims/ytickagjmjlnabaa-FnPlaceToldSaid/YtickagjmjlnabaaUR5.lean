/- What the arguments of the row stand for. Conditions: none but those ahead of each theorem. -/
import Derived.Test.YtickagjmjlnabaaUG7
import Derived.Test.YtickagjmjlnabaaUR0
namespace Go.Proofs.Ytickagjmjlnabaa
open Go Go.Vm Go.Proofs
theorem fnPlaceTold.law (xs : List UInt8) (h : xs.length ≤ 9223372036854775807) : Fx 5 [.fro none false (xs.map bA)] (.bool true) := f5 xs h
end Go.Proofs.Ytickagjmjlnabaa
