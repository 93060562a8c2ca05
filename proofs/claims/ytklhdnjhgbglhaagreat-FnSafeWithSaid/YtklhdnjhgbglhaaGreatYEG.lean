/- WALK, or plain laws for it: theorem f<k> says what function k returns. Conditions: none but those ahead of each theorem. -/
import Derived.Test.YtklhdnjhgbglhaaGreatYP7
import Derived.Test.YtklhdnjhgbglhaaGreatYI1
set_option linter.unusedVariables false
set_option linter.unusedSimpArgs false
open Nat renaming reduceEqDiff → sN1, reduceAdd → sN2, reduceBEq → sN3, reduceLT → sN4, reduceMul → sN5, reduceLeDiff → sN6, reduceSub → sN7
open Int renaming reduceLE → sI1, reduceLT → sI2, reduceEq → sI3
open Go Go.Vm Go.Proofs
set_option maxRecDepth 100000
set_option maxHeartbeats 8000000
theorem f88 (n who : Int) : Fx 88 [.int .i64 n, .cptr none [.int .i64 who]] (.bool (decide (n = who))) := by
  refine fn_of ⟨false, [], []⟩ Tryz.func88 (by kernel_rfl) rfl (by kernel_rfl) (by kernel_rfl) (Nat.le_of_ble_eq_true rfl) rfl fun Q hQ => ?_
  simp only [vmA, sN1, reduceIte, sN2, sN3, reduceCtorEq, sN4, sI1, sI2, sI3, sN5, sN6]
  (refine hQ _ ?_; simp only [vmA, sN1, reduceIte, sN2, sN3, reduceCtorEq, sN4, sI1, sI2, sI3, sN5, sN6, Tryz.f88, retG, resL, St.closeVs, St.closeV])
theorem f144 (who : Int) (xs : List Int) (c : Bool) (hl : xs.length ≤ 9223372036854775807) : Fx 144 [.fro none c (xs.map iA), .clo 88 [.cptr none [.int .i64 who]]] (.int .i64 (idxL (fun w => w = who) xs 0)) := by
  refine fn_of ⟨false, [], []⟩ Tryz.func144 (by kernel_rfl) rfl (by kernel_rfl) (by kernel_rfl) (Nat.le_of_ble_eq_true rfl) rfl fun Q hQ => ?_
  simp only [vmA, sN1, reduceIte, sN2, sN3, reduceCtorEq, sN4, sI1, sI2, sI3, sN5, sN6, List.length_map]
  refine WT_loop (fun (i : Nat) σ => i ≤ xs.length ∧ σ.sl 0 = .fro none c (xs.map iA) ∧ σ.sl 1 = .clo 88 [.cptr none [.int .i64 who]] ∧ σ.sl 7 = .int .i64 xs.length ∧ σ.sl 8 = .int .i64 i ∧ idxL (fun w => w = who) (xs.drop i) i = idxL (fun w => w = who) xs 0) (fun i => xs.length - i) 0 ⟨by omega, by simp [vmI], by simp [vmI], by simp [vmI], by simp [vmI], by simp⟩ ?_
  rintro i σ ⟨hi, e0, e1, e7, e8, hx⟩
  simp only [vmA, sN1, reduceIte, sN2, sN3, reduceCtorEq, sN4, sI1, sI2, sI3, sN5, sN6, e0, e1, e7, e8, List.length_map]
  refine ⟨fun hlt => ?_, fun hge => ?_⟩
  · refine ⟨hlt, by omega, callD (f88 xs[i]! who) ?_⟩
    rw [idxL_drop _ (by omega)] at hx
    simp only [vmA, sN1, reduceIte, sN2, sN3, reduceCtorEq, sN4, sI1, sI2, sI3, sN5, sN6, e0, e1, e7, e8]
    refine ⟨fun hn => ?_, fun hn => ?_⟩
    · rw [if_pos hn] at hx
      (refine hQ _ ?_; simp only [vmA, sN1, reduceIte, sN2, sN3, reduceCtorEq, sN4, sI1, sI2, sI3, sN5, sN6, Tryz.f144, retG, resL, St.closeVs, St.closeV])
      rw [hx]
    · rw [if_neg (by simpa using hn)] at hx
      rw [wr (by omega)]
      exact ⟨i + 1, ⟨by omega, rfl, hx⟩, by omega⟩
  · have : xs.drop i = [] := List.drop_of_length_le (by omega)
    rw [this, idxL] at hx
    (refine hQ _ ?_; simp only [vmA, sN1, reduceIte, sN2, sN3, reduceCtorEq, sN4, sI1, sI2, sI3, sN5, sN6, Tryz.f144, retG, resL, St.closeVs, St.closeV])
    rw [← hx]
theorem f86 (xs : List Int) (who : Int) (hl : xs.length ≤ 1048576) : FxR 86 [.own 1 (xs.map iA), .clo 88 [.cptr none [.int .i64 who]]] fun r l => r = .own 1 ((neL who xs).map iA) ∧ l = .tup [] := by
  refine fn_ofW false (k := 0) Tryz.func86 (by kernel_rfl) rfl (by kernel_rfl) (by kernel_rfl) (Nat.le_of_ble_eq_true rfl) rfl ⟨_, _, .inl rfl⟩ rfl fun Q hQ => ?_
  simp only [vmA, sN1, reduceIte, sN2, sN3, reduceCtorEq, sN4, sI1, sI2, sI3, sN5, sN6, List.length_map]
  refine callD (f144 who xs false (by omega)) ?_
  rcases idxL_spec (fun w : Int => w = who) xs 0 (by omega) with ⟨h1, h2⟩ | ⟨p, h1, h2, h3, h4⟩
  · rw [h1]
    simp only [vmA, sN1, reduceIte, sN2, sN3, reduceCtorEq, sN4, sI1, sI2, sI3, sN5, sN6, List.length_map]
    (refine hQ _ ?_; simp only [vmA, sN1, reduceIte, sN2, sN3, reduceCtorEq, sN4, sI1, sI2, sI3, sN5, sN6, Tryz.f86, retG, resL, St.closeVs, St.closeV, leftV, ghostW, List.length_map, take_map_len, Nat.sub_zero, Int.toNat_zero])
    rw [neL_same h2]
  · have h5 : ¬ ((p : Int) = -1) := by omega
    rw [h2, Int.zero_add]
    simp only [vmA, sN1, reduceIte, sN2, sN3, reduceCtorEq, sN4, sI1, sI2, sI3, sN5, sN6, List.length_map, h5]
    rw [wr (by omega)]
    refine WT_loop (fun (zz : Nat × Nat × List Int) σ => (delI who xs zz.2.2 zz.2.1 zz.1) ∧ σ.sl 6 = .int .i64 zz.1 ∧ σ.sl 5 = .int .i64 zz.2.1 ∧ σ.sl 1 = .clo 88 [.cptr none [.int .i64 who]] ∧ σ.sl 0 = .hd 0 1 0 xs.length false ∧ (σ.en 0).live = true ∧ (σ.en 0).gen = 1 ∧ (σ.en 0).frz = false ∧ (σ.en 0).sz = 1 ∧ (σ.en 0).elems = zz.2.2.map iA) (fun zz => xs.length - zz.1) ((p + 1, p, xs)) ⟨delI.start h1 h3 h4, by simp [vmI], by simp [vmI], by simp [vmI], by simp [vmI], by simp [vmI], by simp [vmI], by simp [vmI], by simp [vmI], by simp [vmI]⟩ ?_
    rintro ⟨j, i, ys⟩ σ ⟨hd, e6, e5, e1, e0, m0a, m0b, m0c, m0d, m0e⟩
    try dsimp only at e6 e5 e1 e0 m0a m0b m0c m0d m0e hd
    have hd0 := hd
    obtain ⟨d1, d2, d3, d4, d5⟩ := hd0
    simp only [vmA, sN1, reduceIte, sN2, sN3, reduceCtorEq, sN4, sI1, sI2, sI3, sN5, sN6, e6, e5, e1, e0, m0a, m0b, m0c, m0d, m0e, List.length_map, d3]
    refine ⟨fun hlt => ⟨by omega, by omega, callD (f88 _ who) ?_⟩, fun hge => ?_⟩
    · simp only [vmA, sN1, reduceIte, sN2, sN3, reduceCtorEq, sN4, sI1, sI2, sI3, sN5, sN6, e6, e5, e1, e0, m0a, m0b, m0c, m0d, m0e, List.length_map, d3, set_iA]
      refine ⟨fun q1 => ?_, fun q1 => ?_⟩
      · rw [wr (by omega), wr (by omega)]
        exact ⟨by omega, by omega, (j + 1, i + 1, ys.set i ys[j]!), ⟨hd.keep (by omega) q1, rfl, rfl, rfl⟩, by dsimp only; omega⟩
      · rw [wr (by omega)]
        exact ⟨(j + 1, i, ys), ⟨hd.skip (by omega) q1, rfl, rfl, rfl⟩, by dsimp only; omega⟩
    · simp only [vmA, sN1, reduceIte, sN2, sN3, reduceCtorEq, sN4, sI1, sI2, sI3, sN5, sN6, e6, e5, e1, e0, m0a, m0b, m0c, m0d, m0e, List.length_map, d3, t_clear, clearF, mkV, TD.isStruct]
      refine ⟨by omega, by omega, by simp; omega, ?_⟩
      (refine hQ _ ?_; simp only [vmA, sN1, reduceIte, sN2, sN3, reduceCtorEq, sN4, sI1, sI2, sI3, sN5, sN6, Tryz.f86, retG, resL, St.closeVs, St.closeV, leftV, ghostW, e6, e5, e1, e0, m0a, m0b, m0c, m0d, m0e, List.length_map, d3, Nat.sub_zero, Int.toNat_zero])
      obtain rfl : j = xs.length := by omega
      refine ⟨by simp; omega, ?_⟩
      rw [List.append_assoc, List.take_left' (by simp; omega), ← List.map_take, hd.done]
theorem f91 (xs : List Int) (hl : xs.length ≤ 1048576) (hu : risL xs) : FxR 91 [.own 1 (xs.map iA)] fun r l => (∃ ys : List Int, r = .own 1 (ys.map iA) ∧ ys.length ≤ xs.length ∧ ys.Pairwise (· < ·) ∧ ∀ x, x ∈ ys ↔ x ∈ xs) ∧ l = .tup [] := by
  refine fn_ofW ⟨false, [], []⟩ (k := 0) Tryz.func91 (by kernel_rfl) rfl (by kernel_rfl) (by kernel_rfl) (Nat.le_of_ble_eq_true rfl) rfl ⟨_, _, .inl rfl⟩ rfl fun Q hQ => ?_
  simp only [vmA, sN1, reduceIte, sN2, sN3, reduceCtorEq, sN4, sI1, sI2, sI3, sN5, sN6, List.length_map]
  refine ⟨fun h2 => ?_, fun h2 => ?_⟩
  · (refine hQ _ ?_; simp only [vmA, sN1, reduceIte, sN2, sN3, reduceCtorEq, sN4, sI1, sI2, sI3, sN5, sN6, Tryz.f91, retG, resL, St.closeVs, St.closeV, leftV, ghostW, List.length_map, take_map_len, Nat.sub_zero, Int.toNat_zero])
    exact ⟨xs, rfl, Nat.le_refl _, siL.pw fun u v h3 h4 => absurd h3 (by omega), fun x => Iff.rfl⟩
  refine WT_loop (fun (k : Nat) σ => ((1 ≤ k ∧ k ≤ xs.length) ∧ siL xs k) ∧ σ.sl 3 = .int .i64 k ∧ σ.sl 0 = .hd 0 1 0 xs.length false ∧ (σ.en 0).live = true ∧ (σ.en 0).gen = 1 ∧ (σ.en 0).frz = false ∧ (σ.en 0).sz = 1 ∧ (σ.en 0).elems = xs.map iA) (fun k => xs.length - k) (1) ⟨⟨⟨Nat.le_refl _, by omega⟩, fun u v h3 h4 => absurd h3 (by omega)⟩, by simp [vmI], by simp [vmI], by simp [vmI], by simp [vmI], by simp [vmI], by simp [vmI], by simp [vmI]⟩ ?_
  rintro k σ ⟨hk, e3, e0, m0a, m0b, m0c, m0d, m0e⟩
  obtain ⟨⟨k1, k2⟩, hs⟩ := hk
  have hk1 : ((k : Int) - 1).toNat = k - 1 := by omega
  simp only [vmA, sN1, reduceIte, sN2, sN3, reduceCtorEq, sN4, sI1, sI2, sI3, sN5, sN6, e3, e0, m0a, m0b, m0c, m0d, m0e, List.length_map, hk1]
  refine ⟨fun hlt => ?_, fun hge => ?_⟩
  · rw [wr (by omega)]
    simp only [vmA, sN1, reduceIte, sN2, sN3, reduceCtorEq, sN4, sI1, sI2, sI3, sN5, sN6, e3, e0, m0a, m0b, m0c, m0d, m0e, List.length_map, hk1]
    refine ⟨by omega, by omega, ⟨by omega, by omega⟩, by omega, fun q1 => ⟨by omega, ?_⟩, fun q1 => ?_⟩
    · skip
      refine WT_loop (fun (zz : Nat × Nat × List Int) σ => (cmpI xs zz.2.2 zz.1 (k + zz.2.1) ∧ 1 ≤ zz.2.1) ∧ σ.sl 5 = .int .i64 zz.2.1 ∧ σ.sl 3 = .int .i64 zz.1 ∧ σ.sl 4 = .hd 0 1 k (xs.length - k) false ∧ σ.sl 0 = .hd 0 1 0 xs.length false ∧ (σ.en 0).live = true ∧ (σ.en 0).gen = 1 ∧ (σ.en 0).frz = false ∧ (σ.en 0).sz = 1 ∧ (σ.en 0).elems = zz.2.2.map iA) (fun zz => xs.length - zz.2.1) ((k, 1, xs)) ⟨⟨cmpI.start hs k1 (by omega) q1, by dsimp only; omega⟩, by simp [vmI, e3, e0, m0a, m0b, m0c, m0d, m0e], by simp [vmI, e3, e0, m0a, m0b, m0c, m0d, m0e], by simp [vmI, e3, e0, m0a, m0b, m0c, m0d, m0e], by simp [vmI, e3, e0, m0a, m0b, m0c, m0d, m0e], by simp [vmI, e3, e0, m0a, m0b, m0c, m0d, m0e], by simp [vmI, e3, e0, m0a, m0b, m0c, m0d, m0e], by simp [vmI, e3, e0, m0a, m0b, m0c, m0d, m0e], by simp [vmI, e3, e0, m0a, m0b, m0c, m0d, m0e], by simp [vmI, e3, e0, m0a, m0b, m0c, m0d, m0e]⟩ ?_
      clear e3 e0 m0a m0b m0c m0d m0e
      rintro ⟨k', m, ys⟩ σ ⟨hc, e5, e3, e4, e0, m0a, m0b, m0c, m0d, m0e⟩
      try dsimp only at e5 e3 e4 e0 m0a m0b m0c m0d m0e hc
      obtain ⟨hc, hm⟩ := hc
      have hc0 := hc
      obtain ⟨c1, c2, c3, c4, _, _, _, _⟩ := hc0
      have hm2 : ((m : Int) - 1).toNat = m - 1 := by omega
      have hw1 : IntKind.i64.wrap ((m : Int) - 1) = (m : Int) - 1 := wr (by omega)
      have hs4 : k + (m - 1) = k + m - 1 := by omega
      simp only [vmA, sN1, reduceIte, sN2, sN3, reduceCtorEq, sN4, sI1, sI2, sI3, sN5, sN6, e5, e3, e4, e0, m0a, m0b, m0c, m0d, m0e, List.length_map, c4, hm2, hw1, hs4]
      refine ⟨fun hlt2 => ⟨⟨by omega, by omega⟩, by omega, ⟨by omega, by omega, by omega⟩, by omega, fun q2 => ?_, fun q2 => ?_⟩, fun hge2 => ⟨by omega, ?_⟩⟩
      · rw [wr (by omega), wr (by omega)]
        refine ⟨⟨by omega, by omega⟩, by omega, by omega, by omega, (k' + 1, m + 1, ys.set k' ys[k + m]!), ⟨⟨hc.put hu (by omega) q2, by dsimp only; omega⟩, rfl, rfl, ?_⟩, by dsimp only; omega⟩
        rw [← List.map_set]
      · rw [wr (by omega)]
        exact ⟨(k', m + 1, ys), ⟨⟨hc.skip (by omega) q2, by dsimp only; omega⟩, rfl, rfl, rfl⟩, by dsimp only; omega⟩
      · simp only [vmA, sN1, reduceIte, sN2, sN3, reduceCtorEq, sN4, sI1, sI2, sI3, sN5, sN6, e5, e3, e4, e0, m0a, m0b, m0c, m0d, m0e, List.length_map, c4, t_clear, clearF, mkV, TD.isStruct]
        refine ⟨by omega, by simp; omega, ?_⟩
        (refine hQ _ ?_; simp only [vmA, sN1, reduceIte, sN2, sN3, reduceCtorEq, sN4, sI1, sI2, sI3, sN5, sN6, Tryz.f91, retG, resL, St.closeVs, St.closeV, leftV, ghostW, e5, e3, e4, e0, m0a, m0b, m0c, m0d, m0e, List.length_map, c4, Nat.sub_zero, Int.toNat_zero])
        have hx : k + m = xs.length := by omega
        rw [hx] at hc
        obtain ⟨r1, r2⟩ := hc.done
        refine ⟨by simp; omega, ys.take k', ?_, by simp; omega, r1, r2⟩
        rw [List.append_assoc, List.take_left' (by simp; omega), ← List.map_take]
    · rw [wr (by omega)]
      exact ⟨k + 1, ⟨⟨⟨by omega, by omega⟩, hs.next k1 (by omega) hu q1⟩, rfl⟩, by omega⟩
  · obtain rfl : k = xs.length := by omega
    (refine hQ _ ?_; simp only [vmA, sN1, reduceIte, sN2, sN3, reduceCtorEq, sN4, sI1, sI2, sI3, sN5, sN6, Tryz.f91, retG, resL, St.closeVs, St.closeV, leftV, ghostW, e3, e0, m0a, m0b, m0c, m0d, m0e, List.length_map, take_map_len, Nat.sub_zero, Int.toNat_zero])
    exact ⟨xs, rfl, Nat.le_refl _, hs.pw, fun x => Iff.rfl⟩
