/- WALK of functions of the seat, or plain laws for it: each theorem f<k> says what function k returns, for every world and all arguments that stand for the values named. Conditions: none but those ahead of each theorem. -/
import Derived.Test.YtklhdnjhgbglhaaGreatVB6
open Go Go.Vm Go.Proofs
set_option maxRecDepth 100000
set_option maxHeartbeats 8000000
set_option linter.unusedSimpArgs false
set_option linter.unusedVariables false
set_option maxHeartbeats 8000000
set_option linter.unusedSimpArgs false
set_option linter.unusedVariables false
theorem turnV_le (vs : List Ver) (c : Int) (hc : 0 ≤ c) : ∀ n, turnV vs n ≤ c ↔ ∀ k, k < n → lastV vs (k : Nat) 0 ≤ c
  | 0 => by simp [turnV, hc]
  | n + 1 => by
    have ih := turnV_le vs c hc n
    rw [turnV]
    constructor
    · intro h k hk
      rcases Nat.lt_or_eq_of_le (Nat.le_of_lt_succ hk) with h2 | rfl
      · exact ih.1 (by omega) k h2
      · omega
    · intro h
      have h1 := ih.2 fun k hk => h k (by omega)
      have h2 := h n (by omega)
      omega
theorem f53 (h : Hs) (ho : okH h) : Fx 53 [hA h] (.bool (decide (houseP h))) := by
  have h1 := ho.n
  have h2 := ho.m
  refine fn_of ⟨false, [], []⟩ Tryz.func53 (by kernel_rfl) rfl (by kernel_rfl) (by kernel_rfl) (Nat.le_of_ble_eq_true rfl) rfl fun Q hQ => ?_
  simp only [vmA, Nat.reduceEqDiff, reduceIte, Nat.reduceAdd, Nat.reduceBEq, reduceCtorEq, Nat.reduceLT, Int.reduceLE, Int.reduceLT, Int.reduceEq, Nat.reduceMul, Nat.reduceLeDiff, hA, List.length_map]
  have hF : ¬ houseP h → AV.bool false = AV.bool (decide (houseP h)) := fun h => leafF h
  refine callD (f101 h.vs false (by omega) ho.row) ?_
  simp only [vmA, Nat.reduceEqDiff, reduceIte, Nat.reduceAdd, Nat.reduceBEq, reduceCtorEq, Nat.reduceLT, Int.reduceLE, Int.reduceLT, Int.reduceEq, Nat.reduceMul, Nat.reduceLeDiff, hA, List.length_map]
  refine ⟨fun g1 => ?_, fun g1 => callD (f102 _ _ _) ?_⟩
  · (refine hQ _ ?_; simp only [vmA, Nat.reduceEqDiff, reduceIte, Nat.reduceAdd, Nat.reduceBEq, reduceCtorEq, Nat.reduceLT, Int.reduceLE, Int.reduceLT, Int.reduceEq, Nat.reduceMul, Nat.reduceLeDiff, Tryz.f53, retG, resL, St.closeVs, St.closeV])
    exact hF fun z => g1 z.1
  simp only [vmA, Nat.reduceEqDiff, reduceIte, Nat.reduceAdd, Nat.reduceBEq, reduceCtorEq, Nat.reduceLT, Int.reduceLE, Int.reduceLT, Int.reduceEq, Nat.reduceMul, Nat.reduceLeDiff, hA, List.length_map]
  refine ⟨fun g2 => ?_, fun g2 => ⟨fun g4 => ?_, fun g4 => ?_⟩⟩
  · (refine hQ _ ?_; simp only [vmA, Nat.reduceEqDiff, reduceIte, Nat.reduceAdd, Nat.reduceBEq, reduceCtorEq, Nat.reduceLT, Int.reduceLE, Int.reduceLT, Int.reduceEq, Nat.reduceMul, Nat.reduceLeDiff, Tryz.f53, retG, resL, St.closeVs, St.closeV])
    exact hF fun z => g2 z.2.1
  · (refine hQ _ ?_; simp only [vmA, Nat.reduceEqDiff, reduceIte, Nat.reduceAdd, Nat.reduceBEq, reduceCtorEq, Nat.reduceLT, Int.reduceLE, Int.reduceLT, Int.reduceEq, Nat.reduceMul, Nat.reduceLeDiff, Tryz.f53, retG, resL, St.closeVs, St.closeV])
    exact hF fun z => by have := z.2.2.2.1; omega
  have g5 : h.tx.length = 4 := by omega
  have htl := turnV_le h.vs h.ck g2.1 5
  have hlS : ∀ k, lastS h.vs k = lastV h.vs k 0 := fun k => by rw [lastS, if_pos g1]
  refine WT_loop (fun (k : Nat) σ => (k ≤ 5 ∧ (∀ j, j < k → lastV h.vs (j : Nat) 0 ≤ h.ck)) ∧ σ.sl 3 = .int .i64 k ∧ σ.sl 1 = .ptr 64 1 0 0 ∧ (σ.en 64).live = true ∧ (σ.en 64).gen = 1 ∧ (σ.en 64).frz = false ∧ (σ.en 64).sz = 3 ∧ (σ.en 64).elems = [hA h]) (fun k => 5 - k) (0) ⟨⟨Nat.zero_le _, by omega⟩, by simp [vmI, hA], by simp [vmI, hA], by simp [vmI, hA], by simp [vmI, hA], by simp [vmI, hA], by simp [vmI, hA], by simp [vmI, hA]⟩ ?_
  rintro k σ ⟨hk, e3, e1, m64a, m64b, m64c, m64d, m64e⟩
  obtain ⟨hk, hall⟩ := hk
  simp only [vmA, Nat.reduceEqDiff, reduceIte, Nat.reduceAdd, Nat.reduceBEq, reduceCtorEq, Nat.reduceLT, Int.reduceLE, Int.reduceLT, Int.reduceEq, Nat.reduceMul, Nat.reduceLeDiff, e3, e1, m64a, m64b, m64c, m64d, m64e, hA, List.length_map]
  refine ⟨fun hlt => callD (f103 h.vs false k (by omega) ho.row) ?_, fun hge => ?_⟩
  · simp only [vmA, Nat.reduceEqDiff, reduceIte, Nat.reduceAdd, Nat.reduceBEq, reduceCtorEq, Nat.reduceLT, Int.reduceLE, Int.reduceLT, Int.reduceEq, Nat.reduceMul, Nat.reduceLeDiff, e3, e1, m64a, m64b, m64c, m64d, m64e, hA, List.length_map, hlS]
    refine ⟨fun g6 => ?_, fun g6 => ?_⟩
    · (refine hQ _ ?_; simp only [vmA, Nat.reduceEqDiff, reduceIte, Nat.reduceAdd, Nat.reduceBEq, reduceCtorEq, Nat.reduceLT, Int.reduceLE, Int.reduceLT, Int.reduceEq, Nat.reduceMul, Nat.reduceLeDiff, Tryz.f53, retG, resL, St.closeVs, St.closeV, e3, e1, m64a, m64b, m64c, m64d, m64e])
      exact hF fun z => absurd (htl.1 z.2.2.1 k (by omega)) (by omega)
    · rw [wr (by omega)]
      refine ⟨k + 1, ⟨⟨by omega, fun j hj => ?_⟩, rfl⟩, by omega⟩
      rcases Nat.lt_or_eq_of_le (Nat.le_of_lt_succ hj) with h2 | rfl
      · exact hall j h2
      · omega
  obtain rfl : k = 5 := by omega
  have g3 := htl.2 hall
  clear hall htl hlS hk hge
  refine WT_loop (fun (i : Nat) σ => (i ≤ 4 ∧ (∀ j, j < i → txP h.tx[j]! h.ck) ∧ apP h.tx i) ∧ σ.sl 4 = .int .i64 i ∧ σ.sl 1 = .ptr 64 1 0 0 ∧ (σ.en 64).live = true ∧ (σ.en 64).gen = 1 ∧ (σ.en 64).frz = false ∧ (σ.en 64).sz = 3 ∧ (σ.en 64).elems = [hA h]) (fun i => 4 - i) (0) ⟨⟨Nat.zero_le _, (by intro j hj; cases hj), (by intro j hj; cases hj)⟩, by simp [vmI, e3, e1, m64a, m64b, m64c, m64d, m64e, hA], by simp [vmI, e3, e1, m64a, m64b, m64c, m64d, m64e, hA], by simp [vmI, e3, e1, m64a, m64b, m64c, m64d, m64e, hA], by simp [vmI, e3, e1, m64a, m64b, m64c, m64d, m64e, hA], by simp [vmI, e3, e1, m64a, m64b, m64c, m64d, m64e, hA], by simp [vmI, e3, e1, m64a, m64b, m64c, m64d, m64e, hA], by simp [vmI, e3, e1, m64a, m64b, m64c, m64d, m64e, hA]⟩ ?_
  clear e3 e1 m64a m64b m64c m64d m64e
  rintro i σ ⟨hi, e4, e1, m64a, m64b, m64c, m64d, m64e⟩
  obtain ⟨hi, hall, hap⟩ := hi
  simp only [vmA, Nat.reduceEqDiff, reduceIte, Nat.reduceAdd, Nat.reduceBEq, reduceCtorEq, Nat.reduceLT, Int.reduceLE, Int.reduceLT, Int.reduceEq, Nat.reduceMul, Nat.reduceLeDiff, e4, e1, m64a, m64b, m64c, m64d, m64e, hA, xA, List.length_map]
  refine ⟨fun hlt => ⟨by omega, by omega, callD (f104 h.tx[i]! h.ck g2 (ho.at (by omega))) ?_⟩, fun hge => ?_⟩
  rotate_left
  · (refine hQ _ ?_; simp only [vmA, Nat.reduceEqDiff, reduceIte, Nat.reduceAdd, Nat.reduceBEq, reduceCtorEq, Nat.reduceLT, Int.reduceLE, Int.reduceLT, Int.reduceEq, Nat.reduceMul, Nat.reduceLeDiff, Tryz.f53, retG, resL, St.closeVs, St.closeV, e4, e1, m64a, m64b, m64c, m64d, m64e])
    obtain rfl : i = 4 := by omega
    exact leafT ⟨g1, g2, g3, g5, hall, hap⟩
  simp only [vmA, Nat.reduceEqDiff, reduceIte, Nat.reduceAdd, Nat.reduceBEq, reduceCtorEq, Nat.reduceLT, Int.reduceLE, Int.reduceLT, Int.reduceEq, Nat.reduceMul, Nat.reduceLeDiff, e4, e1, m64a, m64b, m64c, m64d, m64e, hA, xA, List.length_map]
  refine ⟨fun g6 => ?_, fun g6 => ?_⟩
  · (refine hQ _ ?_; simp only [vmA, Nat.reduceEqDiff, reduceIte, Nat.reduceAdd, Nat.reduceBEq, reduceCtorEq, Nat.reduceLT, Int.reduceLE, Int.reduceLT, Int.reduceEq, Nat.reduceMul, Nat.reduceLeDiff, Tryz.f53, retG, resL, St.closeVs, St.closeV, e4, e1, m64a, m64b, m64c, m64d, m64e])
    exact hF fun z => g6 (z.2.2.2.2.1 i (by omega))
  have hall' : ∀ j, j < i + 1 → txP h.tx[j]! h.ck := fun j hj => by
    rcases Nat.lt_or_eq_of_le (Nat.le_of_lt_succ hj) with h2 | rfl
    · exact hall j h2
    · exact g6
  refine WT_loop (fun (j : Nat) σ => (j ≤ i ∧ (∀ m, m < j → ¬ (h.tx[i]!.st = 2 ∧ h.tx[m]!.st = 2 ∧ h.tx[i]!.fn = h.tx[m]!.fn))) ∧ σ.sl 5 = .int .i64 j ∧ σ.sl 4 = .int .i64 i ∧ σ.sl 1 = .ptr 64 1 0 0 ∧ (σ.en 64).live = true ∧ (σ.en 64).gen = 1 ∧ (σ.en 64).frz = false ∧ (σ.en 64).sz = 3 ∧ (σ.en 64).elems = [hA h]) (fun j => i - j) (0) ⟨⟨Nat.zero_le _, (by intro j hj; cases hj)⟩, by simp [vmI, e4, e1, m64a, m64b, m64c, m64d, m64e, hA], by simp [vmI, e4, e1, m64a, m64b, m64c, m64d, m64e, hA], by simp [vmI, e4, e1, m64a, m64b, m64c, m64d, m64e, hA], by simp [vmI, e4, e1, m64a, m64b, m64c, m64d, m64e, hA], by simp [vmI, e4, e1, m64a, m64b, m64c, m64d, m64e, hA], by simp [vmI, e4, e1, m64a, m64b, m64c, m64d, m64e, hA], by simp [vmI, e4, e1, m64a, m64b, m64c, m64d, m64e, hA], by simp [vmI, e4, e1, m64a, m64b, m64c, m64d, m64e, hA]⟩ ?_
  clear e4 e1 m64a m64b m64c m64d m64e
  rintro j σ ⟨hj, e5, e4, e1, m64a, m64b, m64c, m64d, m64e⟩
  obtain ⟨hj, hno⟩ := hj
  have hno' : ¬ (h.tx[i]!.st = 2 ∧ h.tx[j]!.st = 2 ∧ h.tx[i]!.fn = h.tx[j]!.fn) → ∀ m, m < j + 1 → ¬ (h.tx[i]!.st = 2 ∧ h.tx[m]!.st = 2 ∧ h.tx[i]!.fn = h.tx[m]!.fn) := fun g m hm => by
    rcases Nat.lt_or_eq_of_le (Nat.le_of_lt_succ hm) with h2 | rfl
    · exact hno m h2
    · exact g
  simp only [vmA, Nat.reduceEqDiff, reduceIte, Nat.reduceAdd, Nat.reduceBEq, reduceCtorEq, Nat.reduceLT, Int.reduceLE, Int.reduceLT, Int.reduceEq, Nat.reduceMul, Nat.reduceLeDiff, e5, e4, e1, m64a, m64b, m64c, m64d, m64e, hA, xA, List.length_map]
  refine ⟨fun hlj => ⟨by omega, by omega, fun q1 => ?_, fun q1 => ?_⟩, fun hge => ?_⟩
  · refine ⟨by omega, by omega, fun q2 => ?_, fun q2 => ?_⟩
    · refine ⟨by omega, by omega, by omega, by omega, fun q3 => ?_, fun q3 => ?_⟩
      · (refine hQ _ ?_; simp only [vmA, Nat.reduceEqDiff, reduceIte, Nat.reduceAdd, Nat.reduceBEq, reduceCtorEq, Nat.reduceLT, Int.reduceLE, Int.reduceLT, Int.reduceEq, Nat.reduceMul, Nat.reduceLeDiff, Tryz.f53, retG, resL, St.closeVs, St.closeV, e5, e4, e1, m64a, m64b, m64c, m64d, m64e])
        exact hF fun z => z.2.2.2.2.2 i (by omega) j (by omega) ⟨q1, q2, q3⟩
      · rw [wr (by omega)]
        exact ⟨j + 1, ⟨⟨by omega, hno' (fun z => q3 z.2.2)⟩, rfl⟩, by omega⟩
    · rw [wr (by omega)]
      exact ⟨j + 1, ⟨⟨by omega, hno' (fun z => q2 z.2.1)⟩, rfl⟩, by omega⟩
  · rw [wr (by omega)]
    exact ⟨j + 1, ⟨⟨by omega, hno' (fun z => q1 z.1)⟩, rfl⟩, by omega⟩
  · obtain rfl : j = i := by omega
    rw [wr (by omega)]
    refine ⟨j + 1, ⟨⟨by omega, hall', fun a ha m hm => ?_⟩, rfl⟩, by omega⟩
    rcases Nat.lt_or_eq_of_le (Nat.le_of_lt_succ ha) with h2 | rfl
    · exact hap a h2 m hm
    · exact hno m hm
/-- The rows now. -/
noncomputable def nowS (h : Hs) : List (List Val) := if houseP h then rowsS h.vs h.ck else []
