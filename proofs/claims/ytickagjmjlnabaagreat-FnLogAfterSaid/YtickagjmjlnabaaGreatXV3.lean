/- WALK of functions of the seat, or plain laws for it: each theorem f<k> says what function k returns, for every world and all arguments that stand for the values named. Conditions: none but those ahead of each theorem. -/
import Derived.Test.YtickagjmjlnabaaGreatXI1
import Derived.Test.YtickagjmjlnabaaGreatXG8
open Go Go.Vm Go.Proofs
set_option maxRecDepth 100000
set_option maxHeartbeats 8000000
set_option linter.unusedSimpArgs false
set_option linter.unusedVariables false
theorem f26 (xs : List Val) (c c2 : Bool) (hl : xs.length ≤ 1048576) : Fx 26 [.fro none c (xs.map vA), .fro none c2 (xs.map vA)] (.bool true) := by
  refine fn_of ⟨false, [], []⟩ Tryz.func26 (by kernel_rfl) rfl (by kernel_rfl) (by kernel_rfl) (Nat.le_of_ble_eq_true rfl) rfl fun Q hQ => ?_
  simp only [vmA, Nat.reduceEqDiff, reduceIte, Nat.reduceAdd, Nat.reduceBEq, reduceCtorEq, Nat.reduceLT, Int.reduceLE, Int.reduceLT, Int.reduceEq, Nat.reduceMul, Nat.reduceLeDiff, List.length_map]
  refine WT_loop (fun (i : Nat) σ => (i ≤ xs.length) ∧ σ.sl 5 = .int .i64 i ∧ σ.sl 0 = .fro none c (xs.map vA) ∧ σ.sl 1 = .fro none c2 (xs.map vA)) (fun i => xs.length - i) (0) ⟨Nat.zero_le _, by simp [put_sl, put_en, put_none, init_sl, fresh_sl, fresh_en, ent_sl, ent_en, init_en], by simp [put_sl, put_en, put_none, init_sl, fresh_sl, fresh_en, ent_sl, ent_en, init_en], by simp [put_sl, put_en, put_none, init_sl, fresh_sl, fresh_en, ent_sl, ent_en, init_en]⟩ ?_
  rintro i σ ⟨hi, e5, e0, e1⟩
  simp only [vmA, Nat.reduceEqDiff, reduceIte, Nat.reduceAdd, Nat.reduceBEq, reduceCtorEq, Nat.reduceLT, Int.reduceLE, Int.reduceLT, Int.reduceEq, Nat.reduceMul, Nat.reduceLeDiff, e5, e0, e1, vA, List.length_map]
  refine ⟨fun h => ⟨h, by omega, h, by omega, ?_⟩, fun h => ?_⟩
  · rw [wr (by omega)]
    exact ⟨i + 1, ⟨by omega, rfl⟩, by omega⟩
  · (refine hQ _ ?_; simp only [vmA, Nat.reduceEqDiff, reduceIte, Nat.reduceAdd, Nat.reduceBEq, reduceCtorEq, Nat.reduceLT, Int.reduceLE, Int.reduceLT, Int.reduceEq, Nat.reduceMul, Nat.reduceLeDiff, Tryz.f26, retG, resL, St.closeVs, St.closeV])
theorem f10 (xs : List (List Val)) (c c2 : Bool) (hl : xs.length ≤ 1048576) (hr : ∀ w ∈ xs, w.length ≤ 1048576) : Fx 10 [.fro none c (xs.map rA), .fro none c2 (xs.map rA)] (.bool true) := by
  refine fn_of ⟨false, [], []⟩ Tryz.func10 (by kernel_rfl) rfl (by kernel_rfl) (by kernel_rfl) (Nat.le_of_ble_eq_true rfl) rfl fun Q hQ => ?_
  simp only [vmA, Nat.reduceEqDiff, reduceIte, Nat.reduceAdd, Nat.reduceBEq, reduceCtorEq, Nat.reduceLT, Int.reduceLE, Int.reduceLT, Int.reduceEq, Nat.reduceMul, Nat.reduceLeDiff, List.length_map]
  refine WT_loop (fun (i : Nat) σ => (i ≤ xs.length) ∧ σ.sl 5 = .int .i64 i ∧ σ.sl 0 = .fro none c (xs.map rA) ∧ σ.sl 1 = .fro none c2 (xs.map rA)) (fun i => xs.length - i) (0) ⟨Nat.zero_le _, by simp [put_sl, put_en, put_none, init_sl, fresh_sl, fresh_en, ent_sl, ent_en, init_en], by simp [put_sl, put_en, put_none, init_sl, fresh_sl, fresh_en, ent_sl, ent_en, init_en], by simp [put_sl, put_en, put_none, init_sl, fresh_sl, fresh_en, ent_sl, ent_en, init_en]⟩ ?_
  rintro i σ ⟨hi, e5, e0, e1⟩
  simp only [vmA, Nat.reduceEqDiff, reduceIte, Nat.reduceAdd, Nat.reduceBEq, reduceCtorEq, Nat.reduceLT, Int.reduceLE, Int.reduceLT, Int.reduceEq, Nat.reduceMul, Nat.reduceLeDiff, e5, e0, e1, rA, List.length_map]
  refine ⟨fun h => ⟨h, by omega, h, by omega, callD (f26 xs[i]! false false (hr _ (by rw [getElem!_pos xs i (by omega)]; exact List.getElem_mem _))) ?_⟩, fun h => ?_⟩
  · simp only [vmA, Nat.reduceEqDiff, reduceIte, Nat.reduceAdd, Nat.reduceBEq, reduceCtorEq, Nat.reduceLT, Int.reduceLE, Int.reduceLT, Int.reduceEq, Nat.reduceMul, Nat.reduceLeDiff, e5, e0, e1, rA, List.length_map]
    rw [wr (by omega)]
    exact ⟨i + 1, ⟨by omega, rfl⟩, by omega⟩
  · (refine hQ _ ?_; simp only [vmA, Nat.reduceEqDiff, reduceIte, Nat.reduceAdd, Nat.reduceBEq, reduceCtorEq, Nat.reduceLT, Int.reduceLE, Int.reduceLT, Int.reduceEq, Nat.reduceMul, Nat.reduceLeDiff, Tryz.f10, retG, resL, St.closeVs, St.closeV])
