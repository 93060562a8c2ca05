/- WALK, or plain laws for it: theorem f<k> says what function k returns. Conditions: none but those ahead of each theorem. -/
import Derived.Test.YtklhdnjhgbglhaaGreatYQU
set_option linter.unusedVariables false
set_option linter.unusedSimpArgs false
open Nat renaming reduceEqDiff → sN1, reduceAdd → sN2, reduceBEq → sN3, reduceLT → sN4, reduceMul → sN5, reduceLeDiff → sN6, reduceSub → sN7
open Int renaming reduceLE → sI1, reduceLT → sI2, reduceEq → sI3
open Go Go.Vm Go.Proofs
set_option maxRecDepth 100000
set_option maxHeartbeats 16000000
theorem f31 (xs : List UInt8) (hl : xs.length ≤ 9223372036854775807) : FxR 31 [.fro none false (xs.map bA)] fun r l => ∃ (h' : Hs) (w : Int), r = .tup [hA h', .int .i64 w] ∧ houseP h' ∧ l = .und := by
  refine fn_ofR ⟨true, [], []⟩ Tryz.func31 (by kernel_rfl) rfl (by kernel_rfl) (by kernel_rfl) (Nat.le_of_ble_eq_true rfl) rfl fun Q hQ => ?_
  simp only [vmA, sN1, reduceIte, sN2, sN3, reduceCtorEq, sN4, sI1, sI2, sI3, sN5, sN6]
  refine callD (f47 xs hl) ?_
  have hl2 : (xs.take 2000).length ≤ 2000 := by simp; omega
  generalize xs.take 2000 = ys at hl2
  simp only [vmA, sN1, reduceIte, sN2, sN3, reduceCtorEq, sN4, sI1, sI2, sI3, sN5, sN6, rdP, rdA, Option.bind_none]
  refine callR (f61 ys false 0 3 hl2 (by omega) (by omega)) ?_
  rintro _ _ ⟨k, rfl, hk0, hk1, rfl⟩
  simp only [vmA, sN1, reduceIte, sN2, sN3, reduceCtorEq, sN4, sI1, sI2, sI3, sN5, sN6, rdP, rdA, Option.bind_none]
  refine ⟨fun g => callR (f84 ys false (0 + 1) hl2 (by omega) (by omega)) ?_, fun g => callR (f85 ys false (0 + 1) hl2 (by omega) (by omega)) ?_⟩
  · rintro _ _ ⟨h', w, rfl, hp', q, hq, rfl⟩
    simp only [vmA, sN1, reduceIte, sN2, sN3, reduceCtorEq, sN4, sI1, sI2, sI3, sN5, sN6, rdP, rdA, hA, Option.bind_none]
    (refine hQ _ ?_; simp only [vmA, sN1, reduceIte, sN2, sN3, reduceCtorEq, sN4, sI1, sI2, sI3, sN5, sN6, Tryz.f31, retG, resL, St.closeVs, St.closeV, rdP, rdA, hA, Option.bind_none])
    exact ⟨h', w, rfl, hp'⟩
  · rintro _ _ ⟨h', rfl, hp', q, hq, rfl⟩
    simp only [vmA, sN1, reduceIte, sN2, sN3, reduceCtorEq, sN4, sI1, sI2, sI3, sN5, sN6, rdP, rdA, hA, Option.bind_none]
    refine callR (f61 ys false q 4 hl2 (by omega) (by omega)) ?_
    rintro _ _ ⟨k1, rfl, hk2, hk3, rfl⟩
    simp only [vmA, sN1, reduceIte, sN2, sN3, reduceCtorEq, sN4, sI1, sI2, sI3, sN5, sN6, rdP, rdA, hA, Option.bind_none]
    refine callR (f61 ys false (q + 1) 20 hl2 (by omega) (by omega)) ?_
    rintro _ _ ⟨k2, rfl, hk4, hk5, rfl⟩
    simp only [vmA, sN1, reduceIte, sN2, sN3, reduceCtorEq, sN4, sI1, sI2, sI3, sN5, sN6, rdP, rdA, hA, Option.bind_none]
    (refine hQ _ ?_; simp only [vmA, sN1, reduceIte, sN2, sN3, reduceCtorEq, sN4, sI1, sI2, sI3, sN5, sN6, Tryz.f31, retG, resL, St.closeVs, St.closeV, rdP, rdA, hA, Option.bind_none])
    exact ⟨h', _, rfl, hp'⟩
theorem f33 (xs : List Int) (c c2 : Bool) (hl : xs.length ≤ 9223372036854775807) : Fx 33 [.fro none c (xs.map iA), .fro none c2 (xs.map iA)] (.bool true) := by
  refine fn_of ⟨false, [], []⟩ Tryz.func33 (by kernel_rfl) rfl (by kernel_rfl) (by kernel_rfl) (Nat.le_of_ble_eq_true rfl) rfl fun Q hQ => ?_
  simp only [vmA, sN1, reduceIte, sN2, sN3, reduceCtorEq, sN4, sI1, sI2, sI3, sN5, sN6, List.length_map]
  refine WT_loop (fun (i : Nat) σ => (i ≤ xs.length) ∧ σ.sl 5 = .int .i64 i ∧ σ.sl 0 = .fro none c (xs.map iA) ∧ σ.sl 1 = .fro none c2 (xs.map iA)) (fun i => xs.length - i) (0) ⟨Nat.zero_le _, by simp [vmI], by simp [vmI], by simp [vmI]⟩ ?_
  rintro i σ ⟨hi, e5, e0, e1⟩
  simp only [vmA, sN1, reduceIte, sN2, sN3, reduceCtorEq, sN4, sI1, sI2, sI3, sN5, sN6, e5, e0, e1, List.length_map]
  refine ⟨fun h => ⟨h, by omega, h, by omega, ?_⟩, fun h => ?_⟩
  · rw [wr (by omega)]
    exact ⟨i + 1, ⟨by omega, rfl⟩, by omega⟩
  · (refine hQ _ ?_; simp only [vmA, sN1, reduceIte, sN2, sN3, reduceCtorEq, sN4, sI1, sI2, sI3, sN5, sN6, Tryz.f33, retG, resL, St.closeVs, St.closeV, e5, e0, e1])
theorem f36 (xs : List Int) (c : Bool) (k : Int) (hl : xs.length ≤ 9223372036854775807) : Fx 36 [.fro none c (xs.map iA), .int .i64 k] (.bool (decide (k ∈ xs))) := by
  refine fn_of ⟨false, [], []⟩ Tryz.func36 (by kernel_rfl) rfl (by kernel_rfl) (by kernel_rfl) (Nat.le_of_ble_eq_true rfl) rfl fun Q hQ => ?_
  simp only [vmA, sN1, reduceIte, sN2, sN3, reduceCtorEq, sN4, sI1, sI2, sI3, sN5, sN6, List.length_map]
  refine WT_loop (fun (i : Nat) σ => (i ≤ xs.length ∧ ∀ j, j < i → xs[j]! ≠ k) ∧ σ.sl 5 = .int .i64 i ∧ σ.sl 0 = .fro none c (xs.map iA) ∧ σ.sl 1 = .int .i64 k) (fun i => xs.length - i) (0) ⟨⟨Nat.zero_le _, fun j hj => absurd hj (Nat.not_lt_zero _)⟩, by simp [vmI], by simp [vmI], by simp [vmI]⟩ ?_
  rintro i σ ⟨hi, e5, e0, e1⟩
  obtain ⟨hi, hL⟩ := hi
  simp only [vmA, sN1, reduceIte, sN2, sN3, reduceCtorEq, sN4, sI1, sI2, sI3, sN5, sN6, e5, e0, e1, List.length_map]
  refine ⟨fun h => ⟨h, by omega, fun he => ?_, fun hne => ?_⟩, fun h => ?_⟩
  · (refine hQ _ ?_; simp only [vmA, sN1, reduceIte, sN2, sN3, reduceCtorEq, sN4, sI1, sI2, sI3, sN5, sN6, Tryz.f36, retG, resL, St.closeVs, St.closeV, e5, e0, e1])
    exact leafG ⟨fun _ => mem_at.2 ⟨i, by omega, he⟩, fun _ => rfl⟩
  · rw [wr (by omega)]
    exact ⟨i + 1, ⟨⟨by omega, fun j hj => by
      by_cases hji : j = i
      · subst hji; exact hne
      · exact hL j (by omega)⟩, rfl⟩, by omega⟩
  · (refine hQ _ ?_; simp only [vmA, sN1, reduceIte, sN2, sN3, reduceCtorEq, sN4, sI1, sI2, sI3, sN5, sN6, Tryz.f36, retG, resL, St.closeVs, St.closeV, e5, e0, e1])
    exact leafG ⟨fun e => (by cases e), fun e => (by
      obtain ⟨j, hj, e⟩ := mem_at.1 e
      exact absurd e (hL j (by omega)))⟩
