/- WALK of functions of the seat, or plain laws for it: each theorem f<k> says what function k returns, for every world and all arguments that stand for the values named. Conditions: none but those ahead of each theorem. -/
import Derived.Test.YtfimolakepbdbaaYV5
import Derived.Test.YtfimolakepbdbaaYR1
namespace Go.Proofs.Ytfimolakepbdbaa
open Go Go.Vm Go.Proofs
theorem fnWindowRows.law (xs : List UInt8) (h : xs.length ≤ 9223372036854775807) : Fx 5 [.fro none false (xs.map bA)] (.bool true) := f5 xs h
end Go.Proofs.Ytfimolakepbdbaa
