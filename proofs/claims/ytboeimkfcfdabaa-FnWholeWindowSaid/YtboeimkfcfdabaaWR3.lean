/- WALK of functions of the seat, or plain laws for it: each theorem f<k> says what function k returns, for every world and all arguments that stand for the values named. Conditions: none but those ahead of each theorem. -/
import Derived.Test.YtboeimkfcfdabaaWRd
import Derived.Test.YtboeimkfcfdabaaWK16
import Derived.Test.YtboeimkfcfdabaaRows
import Derived.WalkKit
import Derived.ProofKit
import Derived.OpenShut
import Derived.ShutString
import Derived.ChangeOld
import Derived.Below
import Derived.Carry
import Derived.SizedLaws
set_option linter.unusedVariables false
set_option linter.unusedSimpArgs false
namespace Go.Proofs.Ytboeimkfcfdabaa
open Go Go.Vm Go.Proofs Go.ChangeShapes Go.WideShapes Go.ChangeAt Go.RowKit
theorem Rd.conv {P : Program} {t : Nat} {α β : Type} {f : α → AV} {f' : β → AV} {ok : α → Prop} {ok' : β → Prop} (h : Rd P t f ok) (hk : ∀ a, ok a → ∃ b, leaves (f' b) = leaves (f a) ∧ ok' b) : Rd P t f' ok' :=
  ⟨fun enc w sp held fuel cs x hx => let ⟨a, h1, h2⟩ := h.out enc w sp held fuel cs x hx; let ⟨b, h3, h4⟩ := hk a h2; ⟨b, by rw [h3]; exact h1, h4⟩⟩
theorem rdByte : Rd Try.prog 5 bA (fun _ => True) := Rd.conv (Rd.int Try.underlying5) fun n hn => by
  have hn : 0 ≤ n ∧ n ≤ 255 := by simpa [Lit.wf, IntKind.min, IntKind.max, IntKind.signed, IntKind.bits] using hn
  refine ⟨UInt8.ofNat n.toNat, ?_, trivial⟩
  have : ((UInt8.ofNat n.toNat).toNat : Int) = n := by rw [UInt8.toNat_ofNat']; omega
  show [AV.int .u8 ((UInt8.ofNat n.toNat).toNat : Int)] = [AV.int .u8 n]
  rw [this]
theorem rdBytes : Rd Try.prog 22 (fun xs : List UInt8 => .fro none false (xs.map bA)) (fun xs => xs.length ≤ 9223372036854775807) := (Rd.slice Try.underlying22 (show Try.prog.cellsOf 5 = 0 + 1 by kernel_rfl) rdByte).mono fun a h => by have := h.1; unfold maxLen at this; omega
theorem fnWholeWindow.law (xs : List UInt8) (h : xs.length ≤ 9223372036854775807) : Fx 3 [.fro none false (xs.map bA)] (.bool true) := f3 xs h
end Go.Proofs.Ytboeimkfcfdabaa
