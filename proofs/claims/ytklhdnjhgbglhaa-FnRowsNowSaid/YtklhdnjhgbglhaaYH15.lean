/- WALK of functions of the seat, or plain laws for it: each theorem f<k> says what function k returns, for every world and all arguments that stand for the values named. Conditions: none but those ahead of each theorem. -/
import Derived.Test.YtklhdnjhgbglhaaYH14
open Go Go.Vm Go.Proofs
set_option maxRecDepth 100000
set_option maxHeartbeats 16000000
set_option linter.unusedSimpArgs false
set_option linter.unusedVariables false
theorem f19F (xs : List UInt8) (c : Bool) (p : Int) (hl : xs.length ≤ 2000) (h0 : 0 ≤ p) (h1 : p ≤ 1099511620000) : FxR 19 [rdP xs c p, .int .i64 9] fun r l => ∃ h : Hs, r = hA h ∧ okH h ∧ ∃ q : Int, l = rdP xs c q := by
  have h := f19 xs c p hl h0 h1
  refine FxR.wkR (R := _) ⟨h.1, DoesR.froA h.2⟩ ?_
  rintro r l ⟨r0, ⟨h', ⟨fs, rfl⟩, e, ho, hq⟩, rfl⟩
  exact ⟨h', e, ho, hq⟩
theorem f5 (xs : List UInt8) (hl : xs.length ≤ 9223372036854775807) : FxR 5 [.fro none false (xs.map bA)] fun r l => ∃ h : Hs, r = hA h ∧ okH h ∧ l = .und := by
  refine fn_ofR ⟨true, [], []⟩ Try.func5 (by kernel_rfl) rfl (by kernel_rfl) (by kernel_rfl) (Nat.le_of_ble_eq_true rfl) rfl fun Q hQ => ?_
  simp only [vmA, Nat.reduceEqDiff, reduceIte, Nat.reduceAdd, Nat.reduceBEq, reduceCtorEq, Nat.reduceLT, Int.reduceLE, Int.reduceLT, Int.reduceEq, Nat.reduceMul, Nat.reduceLeDiff]
  refine callD (f20 xs hl) ?_
  simp only [vmA, Nat.reduceEqDiff, reduceIte, Nat.reduceAdd, Nat.reduceBEq, reduceCtorEq, Nat.reduceLT, Int.reduceLE, Int.reduceLT, Int.reduceEq, Nat.reduceMul, Nat.reduceLeDiff, rdP, rdA, Option.bind_none]
  refine callR (f19F (xs.take 2000) false 0 (by simp; omega) (by omega) (by omega)) ?_
  rintro _ _ ⟨h, rfl, ho, q, rfl⟩
  simp only [vmA, Nat.reduceEqDiff, reduceIte, Nat.reduceAdd, Nat.reduceBEq, reduceCtorEq, Nat.reduceLT, Int.reduceLE, Int.reduceLT, Int.reduceEq, Nat.reduceMul, Nat.reduceLeDiff, rdP, rdA, hA, Option.bind_none, behind_nf]
  (refine hQ _ ?_; simp only [vmA, Nat.reduceEqDiff, reduceIte, Nat.reduceAdd, Nat.reduceBEq, reduceCtorEq, Nat.reduceLT, Int.reduceLE, Int.reduceLT, Int.reduceEq, Nat.reduceMul, Nat.reduceLeDiff, Try.f5, retG, resL, St.closeVs, St.closeV, hA, Option.bind_none])
  exact ⟨h, rfl, ho⟩
