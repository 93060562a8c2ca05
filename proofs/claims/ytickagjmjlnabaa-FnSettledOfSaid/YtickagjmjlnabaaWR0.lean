/- What the arguments of the row stand for. Conditions: none but those ahead of each theorem. -/
import Derived.Test.YtickagjmjlnabaaWBase
import Derived.Test.YtickagjmjlnabaaWRd
import Derived.Test.YtickagjmjlnabaaRows
import Derived.WalkKit
import Derived.ProofKit
import Derived.OpenShut
import Derived.ShutString
import Derived.ChangeOld
import Derived.Below
import Derived.Carry
import Derived.SizedLaws
namespace Go.Proofs.Ytickagjmjlnabaa
open Go Go.Vm Go.Proofs Go.ChangeShapes Go.WideShapes Go.ChangeAt Go.RowKit
theorem rdInt : Rd Try.prog 3 (fun n : Int => .int .i64 n) (fun _ => True) := (Rd.int Try.underlying3).mono fun _ _ => trivial
theorem rdVal : Rd Try.prog 132 vA okV := Rd.triple (mk := Val.mk) (k := vA) Try.underlying132 rfl (by kernel_rfl) (by kernel_rfl) (by kernel_rfl) (Rd.int Try.underlying3) (Rd.int Try.underlying3) (Rd.str Try.underlying9) (fun _ _ _ => rfl)
  (fun a b c _ _ h => by unfold maxLen at h; show c.size ≤ _; omega)
theorem rdVals : Rd Try.prog 99 (fun xs : List Val => .fro none false (xs.map vA)) (fun xs => xs.length ≤ maxLen ∧ ∀ v ∈ xs, okV v) := Rd.slice Try.underlying99 (show Try.prog.cellsOf 132 = 2 + 1 by kernel_rfl) rdVal
theorem rdWr : Rd Try.prog 101 wA okW := Rd.triple (mk := Wr.mk) (k := wA) Try.underlying101 rfl (by kernel_rfl) (by kernel_rfl) (by kernel_rfl) (Rd.int Try.underlying3) rdVals (Rd.bool Try.underlying4) (fun _ _ _ => rfl)
  (fun a b c _ h _ => ⟨by have := h.1; unfold maxLen at this; show b.length ≤ _; omega, h.2⟩)
theorem rdWrs : Rd Try.prog 67 (fun xs : List Wr => .fro none false (xs.map wA)) (fun xs => xs.length ≤ maxLen ∧ ∀ v ∈ xs, okW v) := Rd.slice Try.underlying67 (show Try.prog.cellsOf 101 = 2 + 1 by kernel_rfl) rdWr
theorem rdEn : Rd Try.prog 69 eA okE := Rd.pair (mk := En.mk) (k := eA) Try.underlying69 rfl (by kernel_rfl) (by kernel_rfl) (Rd.int Try.underlying3) rdWrs (fun _ _ => rfl)
  (fun a b _ h => ⟨by have := h.1; unfold maxLen at this; show b.length ≤ _; omega, h.2⟩)
theorem rdEns : Rd Try.prog 31 (fun xs : List En => .fro none false (xs.map eA)) (fun xs => xs.length ≤ 9223372036854775807 ∧ ∀ v ∈ xs, okE v) := (Rd.slice Try.underlying31 (show Try.prog.cellsOf 69 = 1 + 1 by kernel_rfl) rdEn).mono fun a h => ⟨by have := h.1; unfold maxLen at this; omega, h.2⟩
theorem rdInts : Rd Try.prog 24 (fun xs : List Int => .fro none false (xs.map iA)) (fun xs => xs.length ≤ 9223372036854775807) := (Rd.slice Try.underlying24 (show Try.prog.cellsOf 3 = 0 + 1 by kernel_rfl) rdInt).mono fun a h => by have := h.1; unfold maxLen at this; omega
theorem Rd.conv {P : Program} {t : Nat} {α β : Type} {f : α → AV} {f' : β → AV} {ok : α → Prop} {ok' : β → Prop} (h : Rd P t f ok) (hk : ∀ a, ok a → ∃ b, leaves (f' b) = leaves (f a) ∧ ok' b) : Rd P t f' ok' :=
  ⟨fun enc w sp held fuel cs x hx => let ⟨a, h1, h2⟩ := h.out enc w sp held fuel cs x hx; let ⟨b, h3, h4⟩ := hk a h2; ⟨b, by rw [h3]; exact h1, h4⟩⟩
theorem rdByte : Rd Try.prog 5 bA (fun _ => True) := Rd.conv (Rd.int Try.underlying5) fun n hn => by
  have hn : 0 ≤ n ∧ n ≤ 255 := by simpa [Lit.wf, IntKind.min, IntKind.max, IntKind.signed, IntKind.bits] using hn
  refine ⟨UInt8.ofNat n.toNat, ?_, trivial⟩
  have : ((UInt8.ofNat n.toNat).toNat : Int) = n := by rw [UInt8.toNat_ofNat']; omega
  show [AV.int .u8 ((UInt8.ofNat n.toNat).toNat : Int)] = [AV.int .u8 n]
  rw [this]
theorem rdBytes : Rd Try.prog 22 (fun xs : List UInt8 => .fro none false (xs.map bA)) (fun xs => xs.length ≤ 9223372036854775807) := (Rd.slice Try.underlying22 (show Try.prog.cellsOf 5 = 0 + 1 by kernel_rfl) rdByte).mono fun a h => by have := h.1; unfold maxLen at this; omega
end Go.Proofs.Ytickagjmjlnabaa
