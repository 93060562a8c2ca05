/- WALK of functions of the seat, or plain laws for it: each theorem f<k> says what function k returns, for every world and all arguments that stand for the values named. Conditions: none but those ahead of each theorem. -/
import Derived.Test.YtboeimkfcfdabaaWE2
open Go Go.Vm Go.Proofs
set_option maxRecDepth 100000
set_option maxHeartbeats 8000000
set_option linter.unusedSimpArgs false
set_option linter.unusedVariables false
set_option maxHeartbeats 8000000
set_option linter.unusedSimpArgs false
set_option linter.unusedVariables false
theorem f34 (v : Val) (hs : okV v) : Fx 34 [vA v] (.bool (decide (valP v))) := by
  refine fn_of ⟨false, [], []⟩ Try.func34 (by kernel_rfl) rfl (by kernel_rfl) (by kernel_rfl) (Nat.le_of_ble_eq_true rfl) rfl fun Q hQ => ?_
  simp only [vmA, Nat.reduceEqDiff, reduceIte, Nat.reduceAdd, Nat.reduceBEq, reduceCtorEq, Nat.reduceLT, Int.reduceLE, Int.reduceLT, Int.reduceEq, Nat.reduceMul, Nat.reduceLeDiff, vA]
  refine callD (f73 v hs) ?_
  simp only [vmA, Nat.reduceEqDiff, reduceIte, Nat.reduceAdd, Nat.reduceBEq, reduceCtorEq, Nat.reduceLT, Int.reduceLE, Int.reduceLT, Int.reduceEq, Nat.reduceMul, Nat.reduceLeDiff, vA]
  (refine hQ _ ?_; simp only [vmA, Nat.reduceEqDiff, reduceIte, Nat.reduceAdd, Nat.reduceBEq, reduceCtorEq, Nat.reduceLT, Int.reduceLE, Int.reduceLT, Int.reduceEq, Nat.reduceMul, Nat.reduceLeDiff, Try.f34, retG, resL, St.closeVs, St.closeV])
theorem f12 : Fx 12 [] (.bool true) := by
  refine fn_of ⟨false, [], []⟩ Try.func12 (by kernel_rfl) rfl (by kernel_rfl) (by kernel_rfl) (Nat.le_of_ble_eq_true rfl) rfl fun Q hQ => ?_
  simp only [vmA, Nat.reduceEqDiff, reduceIte, Nat.reduceAdd, Nat.reduceBEq, reduceCtorEq, Nat.reduceLT, Int.reduceLE, Int.reduceLT, Int.reduceEq, Nat.reduceMul, Nat.reduceLeDiff]
  have h1 : valP ⟨1, 3, ⟨⟨[]⟩⟩⟩ := by decide
  have h2 : ¬ valP ⟨9, 0, ⟨⟨[]⟩⟩⟩ := by decide
  refine callD (f34 ⟨1, 3, ⟨⟨[]⟩⟩⟩ (by show (0 : Nat) ≤ _; omega)) ?_
  simp only [vmA, Nat.reduceEqDiff, reduceIte, Nat.reduceAdd, Nat.reduceBEq, reduceCtorEq, Nat.reduceLT, Int.reduceLE, Int.reduceLT, Int.reduceEq, Nat.reduceMul, Nat.reduceLeDiff, h1]
  refine callD (f34 ⟨9, 0, ⟨⟨[]⟩⟩⟩ (by show (0 : Nat) ≤ _; omega)) ?_
  simp only [vmA, Nat.reduceEqDiff, reduceIte, Nat.reduceAdd, Nat.reduceBEq, reduceCtorEq, Nat.reduceLT, Int.reduceLE, Int.reduceLT, Int.reduceEq, Nat.reduceMul, Nat.reduceLeDiff, h2]
  (refine hQ _ ?_; simp only [vmA, Nat.reduceEqDiff, reduceIte, Nat.reduceAdd, Nat.reduceBEq, reduceCtorEq, Nat.reduceLT, Int.reduceLE, Int.reduceLT, Int.reduceEq, Nat.reduceMul, Nat.reduceLeDiff, Try.f12, retG, resL, St.closeVs, St.closeV])
theorem f25 (xs : List Val) (c c2 : Bool) (hl : xs.length ≤ 1048576) : Fx 25 [.fro none c (xs.map vA), .fro none c2 (xs.map vA)] (.bool true) := by
  refine fn_of ⟨false, [], []⟩ Try.func25 (by kernel_rfl) rfl (by kernel_rfl) (by kernel_rfl) (Nat.le_of_ble_eq_true rfl) rfl fun Q hQ => ?_
  simp only [vmA, Nat.reduceEqDiff, reduceIte, Nat.reduceAdd, Nat.reduceBEq, reduceCtorEq, Nat.reduceLT, Int.reduceLE, Int.reduceLT, Int.reduceEq, Nat.reduceMul, Nat.reduceLeDiff, List.length_map]
  refine WT_loop (fun (i : Nat) σ => (i ≤ xs.length) ∧ σ.sl 5 = .int .i64 i ∧ σ.sl 0 = .fro none c (xs.map vA) ∧ σ.sl 1 = .fro none c2 (xs.map vA)) (fun i => xs.length - i) (0) ⟨Nat.zero_le _, by simp [put_sl, put_en, put_none, init_sl, fresh_sl, fresh_en, ent_sl, ent_en, init_en], by simp [put_sl, put_en, put_none, init_sl, fresh_sl, fresh_en, ent_sl, ent_en, init_en], by simp [put_sl, put_en, put_none, init_sl, fresh_sl, fresh_en, ent_sl, ent_en, init_en]⟩ ?_
  rintro i σ ⟨hi, e5, e0, e1⟩
  simp only [vmA, Nat.reduceEqDiff, reduceIte, Nat.reduceAdd, Nat.reduceBEq, reduceCtorEq, Nat.reduceLT, Int.reduceLE, Int.reduceLT, Int.reduceEq, Nat.reduceMul, Nat.reduceLeDiff, e5, e0, e1, vA, List.length_map]
  refine ⟨fun h => ⟨h, by omega, h, by omega, ?_⟩, fun h => ?_⟩
  · rw [wr (by omega)]
    exact ⟨i + 1, ⟨by omega, rfl⟩, by omega⟩
  · (refine hQ _ ?_; simp only [vmA, Nat.reduceEqDiff, reduceIte, Nat.reduceAdd, Nat.reduceBEq, reduceCtorEq, Nat.reduceLT, Int.reduceLE, Int.reduceLT, Int.reduceEq, Nat.reduceMul, Nat.reduceLeDiff, Try.f25, retG, resL, St.closeVs, St.closeV])
theorem f9 (xs : List (List Val)) (c c2 : Bool) (hl : xs.length ≤ 1048576) (hr : ∀ w ∈ xs, w.length ≤ 1048576) : Fx 9 [.fro none c (xs.map rA), .fro none c2 (xs.map rA)] (.bool true) := by
  refine fn_of ⟨false, [], []⟩ Try.func9 (by kernel_rfl) rfl (by kernel_rfl) (by kernel_rfl) (Nat.le_of_ble_eq_true rfl) rfl fun Q hQ => ?_
  simp only [vmA, Nat.reduceEqDiff, reduceIte, Nat.reduceAdd, Nat.reduceBEq, reduceCtorEq, Nat.reduceLT, Int.reduceLE, Int.reduceLT, Int.reduceEq, Nat.reduceMul, Nat.reduceLeDiff, List.length_map]
  refine WT_loop (fun (i : Nat) σ => (i ≤ xs.length) ∧ σ.sl 5 = .int .i64 i ∧ σ.sl 0 = .fro none c (xs.map rA) ∧ σ.sl 1 = .fro none c2 (xs.map rA)) (fun i => xs.length - i) (0) ⟨Nat.zero_le _, by simp [put_sl, put_en, put_none, init_sl, fresh_sl, fresh_en, ent_sl, ent_en, init_en], by simp [put_sl, put_en, put_none, init_sl, fresh_sl, fresh_en, ent_sl, ent_en, init_en], by simp [put_sl, put_en, put_none, init_sl, fresh_sl, fresh_en, ent_sl, ent_en, init_en]⟩ ?_
  rintro i σ ⟨hi, e5, e0, e1⟩
  simp only [vmA, Nat.reduceEqDiff, reduceIte, Nat.reduceAdd, Nat.reduceBEq, reduceCtorEq, Nat.reduceLT, Int.reduceLE, Int.reduceLT, Int.reduceEq, Nat.reduceMul, Nat.reduceLeDiff, e5, e0, e1, rA, List.length_map]
  refine ⟨fun h => ⟨h, by omega, h, by omega, callD (f25 xs[i]! false false (hr _ (by rw [getElem!_pos xs i (by omega)]; exact List.getElem_mem _))) ?_⟩, fun h => ?_⟩
  · simp only [vmA, Nat.reduceEqDiff, reduceIte, Nat.reduceAdd, Nat.reduceBEq, reduceCtorEq, Nat.reduceLT, Int.reduceLE, Int.reduceLT, Int.reduceEq, Nat.reduceMul, Nat.reduceLeDiff, e5, e0, e1, rA, List.length_map]
    rw [wr (by omega)]
    exact ⟨i + 1, ⟨by omega, rfl⟩, by omega⟩
  · (refine hQ _ ?_; simp only [vmA, Nat.reduceEqDiff, reduceIte, Nat.reduceAdd, Nat.reduceBEq, reduceCtorEq, Nat.reduceLT, Int.reduceLE, Int.reduceLT, Int.reduceEq, Nat.reduceMul, Nat.reduceLeDiff, Try.f9, retG, resL, St.closeVs, St.closeV])
/-- Are rows the same? -/
def rEq : List Val → List Val → Prop
  | [], [] => True
  | v :: vs, w :: ws => vEq v w ∧ rEq vs ws
  | _, _ => False
instance rEqD : ∀ (x y : List Val), Decidable (rEq x y)
  | [], [] => isTrue trivial
  | v :: vs, w :: ws => by
    have := rEqD vs ws
    unfold rEq
    exact inferInstance
  | [], _ :: _ => isFalse id
  | _ :: _, [] => isFalse id
theorem rEq_iff : ∀ {x y : List Val}, rEq x y ↔ x.length = y.length ∧ ∀ i, i < x.length → vEq x[i]! y[i]!
  | [], [] => by simp [rEq]
  | v :: vs, w :: ws => by
    rw [rEq, rEq_iff]
    constructor
    · rintro ⟨h1, h2, h3⟩
      refine ⟨by simpa using h2, fun i hi => ?_⟩
      cases i with
      | zero => simpa using h1
      | succ i => simpa using h3 i (by simpa using hi)
    · rintro ⟨h1, h2⟩
      refine ⟨by simpa using h2 0 (by simp), by simpa using h1, fun i hi => ?_⟩
      simpa using h2 (i + 1) (by simpa using hi)
  | [], _ :: _ => by simp [rEq]
  | _ :: _, [] => by simp [rEq]
theorem f58 (xs ys : List Val) (c c2 : Bool) (hl : xs.length ≤ 1048576) (hl2 : ys.length ≤ 1048576) : Fx 58 [.fro none c (xs.map vA), .fro none c2 (ys.map vA)] (.bool (decide (rEq xs ys))) := by
  refine fn_of ⟨false, [], []⟩ Try.func58 (by kernel_rfl) rfl (by kernel_rfl) (by kernel_rfl) (Nat.le_of_ble_eq_true rfl) rfl fun Q hQ => ?_
  simp only [vmA, Nat.reduceEqDiff, reduceIte, Nat.reduceAdd, Nat.reduceBEq, reduceCtorEq, Nat.reduceLT, Int.reduceLE, Int.reduceLT, Int.reduceEq, Nat.reduceMul, Nat.reduceLeDiff, List.length_map]
  refine ⟨fun h => ?_, fun h => ?_⟩
  · (refine hQ _ ?_; simp only [vmA, Nat.reduceEqDiff, reduceIte, Nat.reduceAdd, Nat.reduceBEq, reduceCtorEq, Nat.reduceLT, Int.reduceLE, Int.reduceLT, Int.reduceEq, Nat.reduceMul, Nat.reduceLeDiff, Try.f58, retG, resL, St.closeVs, St.closeV])
    exact (congrArg AV.bool (decide_eq_false fun h2 => h (by have := (rEq_iff.1 h2).1; omega))).symm
  have hlen : xs.length = ys.length := by
    have h9 : (xs.length : Int) = ys.length := by simpa using h
    omega
  refine WT_loop (fun (i : Nat) σ => (i ≤ xs.length ∧ ∀ j, j < i → vEq xs[j]! ys[j]!) ∧ σ.sl 13 = .int .i64 i ∧ σ.sl 12 = .int .i64 xs.length ∧ σ.sl 0 = .fro none c (xs.map vA) ∧ σ.sl 1 = .fro none c2 (ys.map vA)) (fun i => xs.length - i) (0) ⟨⟨Nat.zero_le _, fun j h => absurd h (by omega)⟩, by simp [put_sl, put_en, put_none, init_sl, fresh_sl, fresh_en, ent_sl, ent_en, init_en], by simp [put_sl, put_en, put_none, init_sl, fresh_sl, fresh_en, ent_sl, ent_en, init_en], by simp [put_sl, put_en, put_none, init_sl, fresh_sl, fresh_en, ent_sl, ent_en, init_en], by simp [put_sl, put_en, put_none, init_sl, fresh_sl, fresh_en, ent_sl, ent_en, init_en]⟩ ?_
  rintro i σ ⟨hi, e13, e12, e0, e1⟩
  simp only [vmA, Nat.reduceEqDiff, reduceIte, Nat.reduceAdd, Nat.reduceBEq, reduceCtorEq, Nat.reduceLT, Int.reduceLE, Int.reduceLT, Int.reduceEq, Nat.reduceMul, Nat.reduceLeDiff, e13, e12, e0, e1, vA, vEq_bool, List.length_map]
  refine ⟨fun h => ⟨h, by omega, by omega, by omega, fun hne => ?_, fun he => ?_⟩, fun h => ?_⟩
  · (refine hQ _ ?_; simp only [vmA, Nat.reduceEqDiff, reduceIte, Nat.reduceAdd, Nat.reduceBEq, reduceCtorEq, Nat.reduceLT, Int.reduceLE, Int.reduceLT, Int.reduceEq, Nat.reduceMul, Nat.reduceLeDiff, Try.f58, retG, resL, St.closeVs, St.closeV])
    exact (congrArg AV.bool (decide_eq_false fun h2 => hne ((rEq_iff.1 h2).2 i (by omega)))).symm
  · rw [wr (by omega)]
    exact ⟨i + 1, ⟨⟨by omega, fun j hj => by
      by_cases hji : j = i
      · rw [hji]; exact he
      · exact hi.2 j (by omega)⟩, rfl⟩, by omega⟩
  · (refine hQ _ ?_; simp only [vmA, Nat.reduceEqDiff, reduceIte, Nat.reduceAdd, Nat.reduceBEq, reduceCtorEq, Nat.reduceLT, Int.reduceLE, Int.reduceLT, Int.reduceEq, Nat.reduceMul, Nat.reduceLeDiff, Try.f58, retG, resL, St.closeVs, St.closeV])
    exact (congrArg AV.bool (decide_eq_true (rEq_iff.2 ⟨hlen, fun j hj => hi.2 j (by omega)⟩))).symm
