/- WALK of functions of the seat, or plain laws for it: each theorem f<k> says what function k returns, for every world and all arguments that stand for the values named. Conditions: none but those ahead of each theorem. -/
import Derived.Test.YtklhdnjhgbglhaaYH9
open Go Go.Vm Go.Proofs
set_option maxRecDepth 100000
set_option maxHeartbeats 16000000
set_option linter.unusedSimpArgs false
set_option linter.unusedVariables false
theorem f44 (xs : List UInt8) (c : Bool) (p : Int) (hl : xs.length ≤ 2000) (h0 : 0 ≤ p) (h1 : p ≤ 1099511626000) : FxR 44 [rdP xs c p, .int .i64 24, .int .i64 0] fun r l => ∃ (ms : List Mv) (q : Int), r = .own 4 (ms.map mA) ∧ ms.length ≤ 24 ∧ (∀ m ∈ ms, okR m.row ∧ m.row.length ≤ 1) ∧ (p ≤ q ∧ q ≤ p + 97) ∧ l = rdP xs c q := by
  refine fn_ofW ⟨true, [], []⟩ (k := 0) Try.func44 (by kernel_rfl) rfl (by kernel_rfl) (by kernel_rfl) (Nat.le_of_ble_eq_true rfl) rfl ⟨_, _, .inr ⟨_, _, rfl⟩⟩ rfl fun Q hQ => ?_
  simp only [vmA, Nat.reduceEqDiff, reduceIte, Nat.reduceAdd, Nat.reduceBEq, reduceCtorEq, Nat.reduceLT, Int.reduceLE, Int.reduceLT, Int.reduceEq, Nat.reduceMul, Nat.reduceLeDiff, rdP, rdA]
  refine callR (f46 xs c _ _ hl (by omega) (by omega)) ?_
  rintro _ _ ⟨k0, rfl, hk0, hkn, rfl⟩
  simp only [vmA, Nat.reduceEqDiff, reduceIte, Nat.reduceAdd, Nat.reduceBEq, reduceCtorEq, Nat.reduceLT, Int.reduceLE, Int.reduceLT, Int.reduceEq, Nat.reduceMul, Nat.reduceLeDiff, rdP, rdA, Option.bind_none]
  refine WT_loopR (fun (zz : Int × Nat × List Mv × Int) σ => ((0 ≤ zz.1 ∧ zz.1 ≤ 24) ∧ (zz.2.2.1.length : Int) + zz.1 ≤ 24 ∧ (∀ m ∈ zz.2.2.1, okR m.row ∧ m.row.length ≤ 1) ∧ (p + 1 ≤ zz.2.2.2 ∧ zz.2.2.2 ≤ p + 1 + 4 * (24 - zz.1))) ∧ σ.sl 8 = .int .i64 zz.1 ∧ σ.sl 0 = .ptr 0 1 0 0 ∧ (σ.en 0).live = true ∧ (σ.en 0).gen = 1 ∧ (σ.en 0).frz = false ∧ (σ.en 0).sz = 2 ∧ (σ.en 0).elems = [rdA xs c zz.2.2.2] ∧ σ.sl 2 = .int .i64 0 ∧ σ.sl 7 = .hd 448 zz.2.1 0 (zz.2.2.1.length) false ∧ (σ.en 448).live = true ∧ (σ.en 448).gen = zz.2.1 ∧ (σ.en 448).frz = false ∧ (σ.en 448).sz = 4 ∧ (σ.en 448).elems = zz.2.2.1.map mA) (fun zz => zz.1.toNat) 7 ?_ ?_
  · simp only [vmA, Nat.reduceEqDiff, reduceIte, Nat.reduceAdd, Nat.reduceBEq, reduceCtorEq, Nat.reduceLT, Int.reduceLE, Int.reduceLT, Int.reduceEq, Nat.reduceMul, Nat.reduceLeDiff, reown, rdA, rdP]
    rw [wr (by omega)] at hkn
    exact ⟨(k0, 1, [], p + 1), ⟨⟨by dsimp only; omega, by dsimp only; omega⟩, by dsimp only; simp; omega, by simp, by dsimp only; omega, by dsimp only; omega⟩, rfl, rfl, rfl, rfl, rfl⟩
  rintro ⟨k, γ, L, q⟩ σ ⟨hk, e8, e0, m0a, m0b, m0c, m0d, m0e, e2, e7, m448a, m448b, m448c, m448d, m448e⟩
  try dsimp only at e8 e0 m0a m0b m0c m0d m0e e2 e7 m448a m448b m448c m448d m448e hk
  obtain ⟨hk, hlen, hok, hq⟩ := hk
  simp only [vmA, Nat.reduceEqDiff, reduceIte, Nat.reduceAdd, Nat.reduceBEq, reduceCtorEq, Nat.reduceLT, Int.reduceLE, Int.reduceLT, Int.reduceEq, Nat.reduceMul, Nat.reduceLeDiff, e8, e0, m0a, m0b, m0c, m0d, m0e, e2, e7, m448a, m448b, m448c, m448d, m448e, rdA, rdP, List.length_map, Option.bind_none]
  refine ⟨fun hpos => callR (f72F xs c q hl (by omega) (by omega)) ?_, fun hneg => ?_⟩
  · rintro _ _ ⟨m, rfl, hm, q', hq', rfl⟩
    simp only [vmA, Nat.reduceEqDiff, reduceIte, Nat.reduceAdd, Nat.reduceBEq, reduceCtorEq, Nat.reduceLT, Int.reduceLE, Int.reduceLT, Int.reduceEq, Nat.reduceMul, Nat.reduceLeDiff, e8, e0, m0a, m0b, m0c, m0d, m0e, e2, e7, m448a, m448b, m448c, m448d, m448e, rdA, rdP, mA, List.length_map, Option.bind_none, behind_nf, reown]
    rw [wr (by omega)]
    refine ⟨⟨by omega, by omega⟩, by simp, ⟨(k - 1, _, L ++ [m], q'), ⟨⟨⟨by dsimp only; omega, by dsimp only; omega⟩, by dsimp only; simp; omega, fun m' hm' => ?_, by dsimp only; omega, by dsimp only; omega⟩, rfl, rfl, ?_, rfl, ?_⟩, by dsimp only; omega⟩⟩
    · rcases List.mem_append.1 hm' with h | h
      · exact hok m' h
      · rw [List.mem_singleton.1 h]; exact hm
    · simp
    · dsimp only
      rw [List.take_of_length_le (by simp), List.map_append]
      rfl
  · (refine hQ _ ?_; simp only [vmA, Nat.reduceEqDiff, reduceIte, Nat.reduceAdd, Nat.reduceBEq, reduceCtorEq, Nat.reduceLT, Int.reduceLE, Int.reduceLT, Int.reduceEq, Nat.reduceMul, Nat.reduceLeDiff, Try.f44, retG, resL, St.closeVs, St.closeV, leftV, ghostW, e8, e0, m0a, m0b, m0c, m0d, m0e, e2, e7, m448a, m448b, m448c, m448d, m448e, rdA, rdP, Option.bind_none, List.length_map])
    exact ⟨L, q, rfl, by omega, hok, ⟨by omega, by omega⟩, rfl⟩
