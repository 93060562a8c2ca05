/- WALK of functions of the seat, or plain laws for it: each theorem f<k> says what function k returns, for every world and all arguments that stand for the values named. Conditions: none but those ahead of each theorem. -/
import Derived.Test.YtklhdnjhgbglhaaXR0
import Derived.Test.YtklhdnjhgbglhaaXD7
import Derived.Test.YtklhdnjhgbglhaaRows
import Derived.WalkKit
import Derived.ProofKit
import Derived.OpenShut
import Derived.ShutString
import Derived.ChangeOld
import Derived.Below
import Derived.Carry
import Derived.SizedLaws
namespace Go.Proofs.Ytklhdnjhgbglhaa
open Go Go.Vm Go.Proofs Go.ChangeShapes Go.WideShapes Go.ChangeAt Go.RowKit
theorem rdInt : Rd Try.prog 3 (fun n : Int => .int .i64 n) (fun _ => True) := (Rd.int Try.underlying3).mono fun _ _ => trivial
theorem rdVal : Rd Try.prog 138 vA okV := Rd.triple (mk := Val.mk) (k := vA) Try.underlying138 rfl (by kernel_rfl) (by kernel_rfl) (by kernel_rfl) (Rd.int Try.underlying3) (Rd.int Try.underlying3) (Rd.str Try.underlying9) (fun _ _ _ => rfl)
  (fun a b c _ _ h => by unfold maxLen at h; show c.size ≤ _; omega)
theorem rdRow : Rd Try.prog 91 rA okR := (Rd.slice Try.underlying91 (show Try.prog.cellsOf 138 = 2 + 1 by kernel_rfl) rdVal).mono fun a h => ⟨by have := h.1; unfold maxLen at this; omega, h.2⟩
theorem rdWr : Rd Try.prog 141 wA okW := Rd.triple (mk := Wr.mk) (k := wA) Try.underlying141 rfl (by kernel_rfl) (by kernel_rfl) (by kernel_rfl) (Rd.int Try.underlying3) rdRow (Rd.bool Try.underlying4) (fun _ _ _ => rfl)
  (fun a b c _ h _ => h)
theorem rdWrs : Rd Try.prog 95 (fun xs : List Wr => .fro none false (xs.map wA)) (fun xs => xs.length ≤ 9223372036854775807 ∧ ∀ v ∈ xs, okW v) := (Rd.slice Try.underlying95 (show Try.prog.cellsOf 141 = 2 + 1 by kernel_rfl) rdWr).mono fun a h => ⟨by have := h.1; unfold maxLen at this; omega, h.2⟩
theorem rdInts : Rd Try.prog 54 (fun xs : List Int => .fro none false (xs.map iA)) (fun xs => xs.length ≤ 9223372036854775807) := (Rd.slice Try.underlying54 (show Try.prog.cellsOf 3 = 0 + 1 by kernel_rfl) rdInt).mono fun a h => by have := h.1; unfold maxLen at this; omega
theorem rdVer : Rd Try.prog 93 gA (fun v => okR v.row) := Rd.quad (mk := Ver.mk) (k := gA) Try.underlying93 rfl (by kernel_rfl) (by kernel_rfl) (by kernel_rfl) (by kernel_rfl) rdInt rdInt rdInt rdRow (fun _ _ _ _ => rfl) (fun _ _ _ _ _ _ _ h => h)
theorem rdVers : Rd Try.prog 35 (fun xs : List Ver => .fro none false (xs.map gA)) (fun xs => xs.length ≤ 9223372036854775807 ∧ ∀ v ∈ xs, okR v.row) := (Rd.slice Try.underlying35 (show Try.prog.cellsOf 93 = 3 + 1 by kernel_rfl) rdVer).mono fun a h => ⟨by have := h.1; unfold maxLen at this; omega, h.2⟩
theorem rdTx : Rd Try.prog 97 xA okX := Rd.quint (mk := Tx.mk) (k := xA) Try.underlying97 rfl (by kernel_rfl) (by kernel_rfl) (by kernel_rfl) (by kernel_rfl) (by kernel_rfl) rdInt rdInt rdInt rdInts rdWrs (fun _ _ _ _ _ => rfl) (fun _ _ _ _ _ _ _ _ h1 h2 => ⟨h1, h2⟩)
theorem rdTxs : Rd Try.prog 36 (fun xs : List Tx => .fro none false (xs.map xA)) (fun xs => xs.length ≤ 9223372036854775807 ∧ ∀ v ∈ xs, okX v) := (Rd.slice Try.underlying36 (show Try.prog.cellsOf 97 = 4 + 1 by kernel_rfl) rdTx).mono fun a h => ⟨by have := h.1; unfold maxLen at this; omega, h.2⟩
theorem rdHs : Rd Try.prog 38 hA inH := Rd.triple (mk := Hs.mk) (k := hA) Try.underlying38 rfl (by kernel_rfl) (by kernel_rfl) (by kernel_rfl) rdVers rdInt rdTxs (fun _ _ _ => rfl) (fun a b c h1 _ h2 => ⟨h1.1, h1.2, h2.1, h2.2⟩)
theorem fnExactRowsNow.law (h : Hs) (hi : inH h) : Fx 4 [hA h] (.bool true) := f4 h hi
end Go.Proofs.Ytklhdnjhgbglhaa
