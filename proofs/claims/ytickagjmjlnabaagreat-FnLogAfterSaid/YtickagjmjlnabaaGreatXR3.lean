/- WALK of functions of the seat, or plain laws for it: each theorem f<k> says what function k returns, for every world and all arguments that stand for the values named. Conditions: none but those ahead of each theorem. -/
import Derived.Test.YtickagjmjlnabaaGreatXN12
import Derived.Test.YtickagjmjlnabaaGreatXR1
namespace Go.Proofs.YtickagjmjlnabaaGreat
open Go Go.Vm Go.Proofs
theorem fnLogAfter.law (xs : List UInt8) (h : xs.length ≤ 9223372036854775807) : Fx 3 [.fro none false (xs.map bA)] (.bool true) := f3 xs h
end Go.Proofs.YtickagjmjlnabaaGreat
