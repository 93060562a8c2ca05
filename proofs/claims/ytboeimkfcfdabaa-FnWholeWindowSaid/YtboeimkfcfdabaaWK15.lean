/- WALK of functions of the seat, or plain laws for it: each theorem f<k> says what function k returns, for every world and all arguments that stand for the values named. Conditions: none but those ahead of each theorem. -/
import Derived.Test.YtboeimkfcfdabaaWT4
import Derived.Test.YtboeimkfcfdabaaWK14
open Go Go.Vm Go.Proofs
set_option maxRecDepth 100000
set_option maxHeartbeats 8000000
set_option linter.unusedSimpArgs false
set_option linter.unusedVariables false
theorem f4 (xs : List UInt8) (hl : xs.length ≤ 9223372036854775807) : FxR 4 [.fro none false (xs.map bA)] fun r l => (∃ rs : List (List Val), r = .own 1 (rs.map rO) ∧ rs.length ≤ 12 ∧ ∀ r ∈ rs, okD r) ∧ l = .und := by
  refine fn_ofR ⟨false, [], []⟩ Try.func4 (by kernel_rfl) rfl (by kernel_rfl) (by kernel_rfl) (Nat.le_of_ble_eq_true rfl) rfl fun Q hQ => ?_
  simp only [vmA, Nat.reduceEqDiff, reduceIte, Nat.reduceAdd, Nat.reduceBEq, reduceCtorEq, Nat.reduceLT, Int.reduceLE, Int.reduceLT, Int.reduceEq, Nat.reduceMul, Nat.reduceLeDiff]
  refine callD (f14 xs hl) ?_
  simp only [vmA, Nat.reduceEqDiff, reduceIte, Nat.reduceAdd, Nat.reduceBEq, reduceCtorEq, Nat.reduceLT, Int.reduceLE, Int.reduceLT, Int.reduceEq, Nat.reduceMul, Nat.reduceLeDiff, rdP]
  refine callR (f13 (xs.take 2000) false 0 0 (by simp; omega) (by omega) (by omega) (.inl rfl)) ?_
  rintro _ _ ⟨rs, q, rfl, h1, h2, _, _, rfl⟩
  simp only [vmA, Nat.reduceEqDiff, reduceIte, Nat.reduceAdd, Nat.reduceBEq, reduceCtorEq, Nat.reduceLT, Int.reduceLE, Int.reduceLT, Int.reduceEq, Nat.reduceMul, Nat.reduceLeDiff, rdP, rdA, hasFroL_rO, behind_nf, hasFro]
  (refine hQ _ ?_; simp only [vmA, Nat.reduceEqDiff, reduceIte, Nat.reduceAdd, Nat.reduceBEq, reduceCtorEq, Nat.reduceLT, Int.reduceLE, Int.reduceLT, Int.reduceEq, Nat.reduceMul, Nat.reduceLeDiff, Try.f4, retG, resL, St.closeVs, St.closeV, rdP, rdA])
  exact ⟨rs, rfl, h1, h2⟩
