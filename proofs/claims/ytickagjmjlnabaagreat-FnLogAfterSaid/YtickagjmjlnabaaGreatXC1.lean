/- WALK of functions of the seat, or plain laws for it: each theorem f<k> says what function k returns, for every world and all arguments that stand for the values named. Conditions: none but those ahead of each theorem. -/
import Derived.Test.YtickagjmjlnabaaGreatXC0
open Go Go.Vm Go.Proofs
set_option maxRecDepth 100000
set_option maxHeartbeats 8000000
set_option linter.unusedSimpArgs false
set_option linter.unusedVariables false
theorem f89 (n : Int) : Fx 89 [.int .i64 n] (.bool false) := by
  refine fn_of false Tryz.func89 (by kernel_rfl) rfl (by kernel_rfl) (by kernel_rfl) (Nat.le_of_ble_eq_true rfl) rfl fun Q hQ => ?_
  simp only [vmA, Nat.reduceEqDiff, reduceIte, Nat.reduceAdd, Nat.reduceBEq, reduceCtorEq, Nat.reduceLT, Int.reduceLE, Int.reduceLT, Int.reduceEq, Nat.reduceMul, Nat.reduceLeDiff]
  (refine hQ _ ?_; simp only [vmA, Nat.reduceEqDiff, reduceIte, Nat.reduceAdd, Nat.reduceBEq, reduceCtorEq, Nat.reduceLT, Int.reduceLE, Int.reduceLT, Int.reduceEq, Nat.reduceMul, Nat.reduceLeDiff, Tryz.f89, retG, resL, St.closeVs, St.closeV])
theorem f71 (a b : Int) : Fx 71 [.int .i64 a, .int .i64 b] (.int .i64 (iCmp a b)) := by
  refine fn_of false Tryz.func71 (by kernel_rfl) rfl (by kernel_rfl) (by kernel_rfl) (Nat.le_of_ble_eq_true rfl) rfl fun Q hQ => ?_
  simp only [vmA, Nat.reduceEqDiff, reduceIte, Nat.reduceAdd, Nat.reduceBEq, reduceCtorEq, Nat.reduceLT, Int.reduceLE, Int.reduceLT, Int.reduceEq, Nat.reduceMul, Nat.reduceLeDiff]
  refine callD (f89 a) ?_
  simp only [vmA, Nat.reduceEqDiff, reduceIte, Nat.reduceAdd, Nat.reduceBEq, reduceCtorEq, Nat.reduceLT, Int.reduceLE, Int.reduceLT, Int.reduceEq, Nat.reduceMul, Nat.reduceLeDiff]
  refine callD (f89 b) ?_
  simp only [vmA, Nat.reduceEqDiff, reduceIte, Nat.reduceAdd, Nat.reduceBEq, reduceCtorEq, Nat.reduceLT, Int.reduceLE, Int.reduceLT, Int.reduceEq, Nat.reduceMul, Nat.reduceLeDiff]
  refine ⟨fun h => ?_, fun h => ⟨fun h2 => ?_, fun h2 => ?_⟩⟩ <;> (refine hQ _ ?_; simp only [vmA, Nat.reduceEqDiff, reduceIte, Nat.reduceAdd, Nat.reduceBEq, reduceCtorEq, Nat.reduceLT, Int.reduceLE, Int.reduceLT, Int.reduceEq, Nat.reduceMul, Nat.reduceLeDiff, Tryz.f71, retG, resL, St.closeVs, St.closeV]) <;> refine leafJ ?_ <;> unfold iCmp
  · rw [if_pos h]
  · rw [if_neg h, if_pos h2]
  · rw [if_neg h, if_neg h2]
theorem f70 (xs : List Int) (c : Bool) (hl : xs.length ≤ 1048576) : Fx 70 [.fro none c (xs.map iA)] (.int .i64 (or0L xs)) := by
  refine fn_of false Tryz.func70 (by kernel_rfl) rfl (by kernel_rfl) (by kernel_rfl) (Nat.le_of_ble_eq_true rfl) rfl fun Q hQ => ?_
  simp only [vmA, Nat.reduceEqDiff, reduceIte, Nat.reduceAdd, Nat.reduceBEq, reduceCtorEq, Nat.reduceLT, Int.reduceLE, Int.reduceLT, Int.reduceEq, Nat.reduceMul, Nat.reduceLeDiff, List.length_map]
  refine WT_loop (fun (i : Nat) σ => (i ≤ xs.length ∧ or0L (xs.drop i) = or0L xs) ∧ σ.sl 6 = .fro none c (xs.map iA) ∧ σ.sl 3 = .int .i64 0 ∧ σ.sl 7 = .int .i64 xs.length ∧ σ.sl 8 = .int .i64 i) (fun i => xs.length - i) 0 ⟨⟨by omega, rfl⟩, by simp [put_sl, put_en, put_none, init_sl, fresh_sl, fresh_en, ent_sl, ent_en, init_en], by simp [put_sl, put_en, put_none, init_sl, fresh_sl, fresh_en, ent_sl, ent_en, init_en], by simp [put_sl, put_en, put_none, init_sl, fresh_sl, fresh_en, ent_sl, ent_en, init_en], by simp [put_sl, put_en, put_none, init_sl, fresh_sl, fresh_en, ent_sl, ent_en, init_en]⟩ ?_
  rintro i σ ⟨⟨hi, hz⟩, e6, e3, e7, e8⟩
  simp only [vmA, Nat.reduceEqDiff, reduceIte, Nat.reduceAdd, Nat.reduceBEq, reduceCtorEq, Nat.reduceLT, Int.reduceLE, Int.reduceLT, Int.reduceEq, Nat.reduceMul, Nat.reduceLeDiff, e6, e3, e7, e8, List.length_map]
  refine ⟨fun hlt => ?_, fun hge => ?_⟩
  · have hd : xs.drop i = xs[i]! :: xs.drop (i + 1) := by rw [List.drop_eq_getElem_cons (by omega), getElem!_pos xs i (by omega)]
    rw [hd, or0L] at hz
    refine ⟨hlt, by omega, fun h0 => ?_, fun h0 => ?_⟩
    · (refine hQ _ ?_; simp only [vmA, Nat.reduceEqDiff, reduceIte, Nat.reduceAdd, Nat.reduceBEq, reduceCtorEq, Nat.reduceLT, Int.reduceLE, Int.reduceLT, Int.reduceEq, Nat.reduceMul, Nat.reduceLeDiff, Tryz.f70, retG, resL, St.closeVs, St.closeV])
      rw [if_neg h0] at hz
      exact leafJ hz
    · rw [if_pos (by simpa using h0)] at hz
      rw [wr (by omega)]
      exact ⟨i + 1, ⟨⟨by omega, hz⟩, rfl⟩, by omega⟩
  · have : xs.drop i = [] := List.drop_of_length_le (by omega)
    rw [this, or0L] at hz
    (refine hQ _ ?_; simp only [vmA, Nat.reduceEqDiff, reduceIte, Nat.reduceAdd, Nat.reduceBEq, reduceCtorEq, Nat.reduceLT, Int.reduceLE, Int.reduceLT, Int.reduceEq, Nat.reduceMul, Nat.reduceLeDiff, Tryz.f70, retG, resL, St.closeVs, St.closeV, e3])
    rw [hz]
theorem or0L3 (a b c : Int) : or0L [a, b, c] = if a = 0 then if b = 0 then c else b else a := by
  simp only [or0L]
  split <;> (try split) <;> (try split) <;> omega
theorem or0L2 (a b : Int) : or0L [a, b] = if a = 0 then b else a := by
  simp only [or0L]
  split <;> (try split) <;> omega
theorem leafT {q : Prop} [Decidable q] (h : q) : AV.bool true = AV.bool (decide q) := by rw [decide_eq_true h]
