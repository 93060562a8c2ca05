/- WALK of functions of the seat, or plain laws for it: each theorem f<k> says what function k returns, for every world and all arguments that stand for the values named. Conditions: none but those ahead of each theorem. -/
import Derived.Test.YtickagjmjlnabaaGreatXN8
open Go Go.Vm Go.Proofs
set_option maxRecDepth 100000
set_option maxHeartbeats 8000000
set_option linter.unusedSimpArgs false
set_option linter.unusedVariables false
theorem f4 (xs : List UInt8) (hl : xs.length ≤ 9223372036854775807) : FxR 4 [.fro none false (xs.map bA)] fun r l => ∃ (es : List En) (ns th : List Int), r = .tup [.own 2 (es.map eO), .own 1 (ns.map iA), .own 1 (th.map iA)] ∧ es.length ≤ 6 ∧ (∀ e ∈ es, okE e) ∧ ns.length ≤ 10 ∧ th.length ≤ 11 ∧ l = .und := by
  refine fn_ofR false Tryz.func4 (by kernel_rfl) rfl (by kernel_rfl) (by kernel_rfl) (Nat.le_of_ble_eq_true rfl) rfl fun Q hQ => ?_
  simp only [vmA, Nat.reduceEqDiff, reduceIte, Nat.reduceAdd, Nat.reduceBEq, reduceCtorEq, Nat.reduceLT, Int.reduceLE, Int.reduceLT, Int.reduceEq, Nat.reduceMul, Nat.reduceLeDiff]
  refine callD (f14 xs hl) ?_
  simp only [vmA, Nat.reduceEqDiff, reduceIte, Nat.reduceAdd, Nat.reduceBEq, reduceCtorEq, Nat.reduceLT, Int.reduceLE, Int.reduceLT, Int.reduceEq, Nat.reduceMul, Nat.reduceLeDiff, rdP, rdA]
  refine callR (f15 (xs.take 2000) false 0 15 (by simp; omega) (by omega) (by omega) (by omega)) ?_
  rintro _ _ ⟨es, ns, p', rfl, h1, h2, h3, hp0, hp1, rfl⟩
  simp only [vmA, Nat.reduceEqDiff, reduceIte, Nat.reduceAdd, Nat.reduceBEq, reduceCtorEq, Nat.reduceLT, Int.reduceLE, Int.reduceLT, Int.reduceEq, Nat.reduceMul, Nat.reduceLeDiff, rdP, rdA, List.length_map]
  refine callR (f16 (xs.take 2000) false p' ns.length (by simp; omega) (by omega) (by omega) (by omega)) ?_
  rintro _ _ ⟨th, p2, rfl, h4, _, _, rfl⟩
  simp only [vmA, Nat.reduceEqDiff, reduceIte, Nat.reduceAdd, Nat.reduceBEq, reduceCtorEq, Nat.reduceLT, Int.reduceLE, Int.reduceLT, Int.reduceEq, Nat.reduceMul, Nat.reduceLeDiff, rdP, rdA, List.length_map]
  (refine hQ _ ?_; simp only [vmA, Nat.reduceEqDiff, reduceIte, Nat.reduceAdd, Nat.reduceBEq, reduceCtorEq, Nat.reduceLT, Int.reduceLE, Int.reduceLT, Int.reduceEq, Nat.reduceMul, Nat.reduceLeDiff, Tryz.f4, retG, resL, St.closeVs, St.closeV, take_map_len])
  exact ⟨es, ns, th, rfl, h1, h2, h3, by omega⟩
