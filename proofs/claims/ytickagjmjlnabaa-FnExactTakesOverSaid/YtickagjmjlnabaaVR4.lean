/- What the arguments of the row stand for. Conditions: none but those ahead of each theorem. -/
import Derived.Test.YtickagjmjlnabaaVF10
import Derived.Test.YtickagjmjlnabaaVRd
import Derived.Test.YtickagjmjlnabaaRows
import Derived.WalkKit
import Derived.ProofKit
import Derived.OpenShut
import Derived.ShutString
import Derived.ChangeOld
import Derived.Below
import Derived.Carry
import Derived.SizedLaws
namespace Go.Proofs.Ytickagjmjlnabaa
open Go Go.Vm Go.Proofs Go.ChangeShapes Go.WideShapes Go.ChangeAt Go.RowKit
theorem rdInt : Rd Try.prog 3 (fun n : Int => .int .i64 n) (fun _ => True) := (Rd.int Try.underlying3).mono fun _ _ => trivial
theorem rdVal : Rd Try.prog 132 vA okV := Rd.triple (mk := Val.mk) (k := vA) Try.underlying132 rfl (by kernel_rfl) (by kernel_rfl) (by kernel_rfl) (Rd.int Try.underlying3) (Rd.int Try.underlying3) (Rd.str Try.underlying9) (fun _ _ _ => rfl)
  (fun a b c _ _ h => by unfold maxLen at h; show c.size ≤ _; omega)
theorem rdVals : Rd Try.prog 99 (fun xs : List Val => .fro none false (xs.map vA)) (fun xs => xs.length ≤ maxLen ∧ ∀ v ∈ xs, okV v) := Rd.slice Try.underlying99 (show Try.prog.cellsOf 132 = 2 + 1 by kernel_rfl) rdVal
theorem rdWr : Rd Try.prog 101 wA okW := Rd.triple (mk := Wr.mk) (k := wA) Try.underlying101 rfl (by kernel_rfl) (by kernel_rfl) (by kernel_rfl) (Rd.int Try.underlying3) rdVals (Rd.bool Try.underlying4) (fun _ _ _ => rfl)
  (fun a b c _ h _ => ⟨by have := h.1; unfold maxLen at this; show b.length ≤ _; omega, h.2⟩)
theorem rdWrs : Rd Try.prog 67 (fun xs : List Wr => .fro none false (xs.map wA)) (fun xs => xs.length ≤ maxLen ∧ ∀ v ∈ xs, okW v) := Rd.slice Try.underlying67 (show Try.prog.cellsOf 101 = 2 + 1 by kernel_rfl) rdWr
theorem rdEn : Rd Try.prog 69 eA okE := Rd.pair (mk := En.mk) (k := eA) Try.underlying69 rfl (by kernel_rfl) (by kernel_rfl) (Rd.int Try.underlying3) rdWrs (fun _ _ => rfl)
  (fun a b _ h => ⟨by have := h.1; unfold maxLen at this; show b.length ≤ _; omega, h.2⟩)
theorem rdEns : Rd Try.prog 31 (fun xs : List En => .fro none false (xs.map eA)) (fun xs => xs.length ≤ 9223372036854775807 ∧ ∀ v ∈ xs, okE v) := (Rd.slice Try.underlying31 (show Try.prog.cellsOf 69 = 1 + 1 by kernel_rfl) rdEn).mono fun a h => ⟨by have := h.1; unfold maxLen at this; omega, h.2⟩
theorem rdInts : Rd Try.prog 24 (fun xs : List Int => .fro none false (xs.map iA)) (fun xs => xs.length ≤ 9223372036854775807) := (Rd.slice Try.underlying24 (show Try.prog.cellsOf 3 = 0 + 1 by kernel_rfl) rdInt).mono fun a h => by have := h.1; unfold maxLen at this; omega
theorem fnExactPlacesOk.law (es : List En) (h : es.length ≤ 9223372036854775807 ∧ ∀ e ∈ es, okE e) (xs : List Int) (h2 : xs.length ≤ 9223372036854775807) : Fx 4 [.fro none false (es.map eA), .fro none false (xs.map iA)] (.bool true) := f4 es h.1 h.2 xs h2
end Go.Proofs.Ytickagjmjlnabaa
