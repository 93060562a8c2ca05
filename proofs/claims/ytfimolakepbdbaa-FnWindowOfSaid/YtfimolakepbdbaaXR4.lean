/- WALK of functions of the seat, or plain laws for it: each theorem f<k> says what function k returns, for every world and all arguments that stand for the values named. Conditions: none but those ahead of each theorem. -/
import Derived.Test.YtfimolakepbdbaaXV2
import Derived.Test.YtfimolakepbdbaaXR1
namespace Go.Proofs.Ytfimolakepbdbaa
open Go Go.Vm Go.Proofs
theorem fnWindowOf.law (xs : List UInt8) (h : xs.length ≤ 9223372036854775807) : Fx 4 [.fro none false (xs.map bA)] (.bool true) := f4 xs h
end Go.Proofs.Ytfimolakepbdbaa
