/- WALK of functions of the seat, or plain laws for it: each theorem f<k> says what function k returns, for every world and all arguments that stand for the values named. Conditions: none but those ahead of each theorem. -/
import Derived.Test.YtfimolakepbdbaaYA3
import Derived.Test.YtfimolakepbdbaaYRd
import Derived.Test.YtfimolakepbdbaaRows
import Derived.WalkKit
import Derived.ProofKit
import Derived.OpenShut
import Derived.ShutString
import Derived.ChangeOld
import Derived.Below
import Derived.Carry
import Derived.SizedLaws
namespace Go.Proofs.Ytfimolakepbdbaa
open Go Go.Vm Go.Proofs Go.ChangeShapes Go.WideShapes Go.ChangeAt Go.RowKit
theorem rdInt : Rd Try.prog 3 (fun n : Int => .int .i64 n) (fun _ => True) := (Rd.int Try.underlying3).mono fun _ _ => trivial
theorem rdVal : Rd Try.prog 66 vA okV := Rd.triple (mk := Val.mk) (k := vA) Try.underlying66 rfl (by kernel_rfl) (by kernel_rfl) (by kernel_rfl) (Rd.int Try.underlying3) (Rd.int Try.underlying3) (Rd.str Try.underlying9) (fun _ _ _ => rfl)
  (fun a b c _ _ h => by unfold maxLen at h; show c.size ≤ _; omega)
theorem rdVals : Rd Try.prog 45 rA okR := (Rd.slice Try.underlying45 (show Try.prog.cellsOf 66 = 2 + 1 by kernel_rfl) rdVal).mono fun a h => ⟨by have := h.1; unfold maxLen at this; omega, h.2⟩
theorem rdRows : Rd Try.prog 22 (fun xs : List (List Val) => .fro none false (xs.map rA)) (fun xs => xs.length ≤ 9223372036854775807 ∧ ∀ r ∈ xs, okR r) := (Rd.slice Try.underlying22 (show Try.prog.cellsOf 45 = 0 + 1 by kernel_rfl) rdVals).mono fun a h => ⟨by have := h.1; unfold maxLen at this; omega, h.2⟩
end Go.Proofs.Ytfimolakepbdbaa
