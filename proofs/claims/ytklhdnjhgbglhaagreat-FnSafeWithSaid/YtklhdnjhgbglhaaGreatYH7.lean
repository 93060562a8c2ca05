/- WALK, or plain laws for it: theorem f<k> says what function k returns. Conditions: none but those ahead of each theorem. -/
import Derived.Test.YtklhdnjhgbglhaaGreatYH6
set_option linter.unusedVariables false
set_option linter.unusedSimpArgs false
open Nat renaming reduceEqDiff → sN1, reduceAdd → sN2, reduceBEq → sN3, reduceLT → sN4, reduceMul → sN5, reduceLeDiff → sN6, reduceSub → sN7
open Int renaming reduceLE → sI1, reduceLT → sI2, reduceEq → sI3
open Go Go.Vm Go.Proofs
set_option maxRecDepth 100000
set_option maxHeartbeats 8000000
set_option maxHeartbeats 8000000
def ownL (key : Int) : List Wr → Nat → Int
  | [], _ => -1
  | w :: ws, i => if w.key = key then (i : Int) else ownL key ws (i + 1)
theorem ownL_at (key : Int) (ws : List Wr) (i : Nat) (h : i < ws.length) : ownL key (ws.drop i) i = if ws[i]!.key = key then (i : Int) else ownL key (ws.drop (i + 1)) (i + 1) := by
  rw [List.drop_eq_getElem_cons h, ownL, getElem!_pos ws i h]
theorem f127x (t : Tx) (key : Int) (hs : t.ws.length ≤ 9223372036854775807) : Fx 127 [xA t, .int .i64 key] (.int .i64 (ownL key t.ws 0)) := by
  refine fn_of ⟨false, [], []⟩ Tryz.func127 (by kernel_rfl) rfl (by kernel_rfl) (by kernel_rfl) (Nat.le_of_ble_eq_true rfl) rfl fun Q hQ => ?_
  simp only [vmA, sN1, reduceIte, sN2, sN3, reduceCtorEq, sN4, sI1, sI2, sI3, sN5, sN6, xA, List.length_map]
  refine WT_loop (fun (i : Nat) σ => (i ≤ t.ws.length ∧ ownL key (t.ws.drop i) i = ownL key t.ws 0) ∧ σ.sl 5 = .int .i64 i ∧ σ.sl 2 = .ptr 128 1 0 0 ∧ (σ.en 128).live = true ∧ (σ.en 128).gen = 1 ∧ (σ.en 128).frz = false ∧ (σ.en 128).sz = 5 ∧ (σ.en 128).elems = [xA t] ∧ σ.sl 1 = .int .i64 key) (fun i => t.ws.length - i) (0) ⟨⟨Nat.zero_le _, rfl⟩, by simp [vmI, xA], by simp [vmI, xA], by simp [vmI, xA], by simp [vmI, xA], by simp [vmI, xA], by simp [vmI, xA], by simp [vmI, xA], by simp [vmI, xA]⟩ ?_
  rintro i σ ⟨hi, e5, e2, m128a, m128b, m128c, m128d, m128e, e1⟩
  obtain ⟨hi, hL⟩ := hi
  simp only [vmA, sN1, reduceIte, sN2, sN3, reduceCtorEq, sN4, sI1, sI2, sI3, sN5, sN6, e5, e2, m128a, m128b, m128c, m128d, m128e, e1, xA, wA, List.length_map]
  refine ⟨fun h => ⟨h, by omega, fun he => ?_, fun hne => ?_⟩, fun h => ?_⟩
  · (refine hQ _ ?_; simp only [vmA, sN1, reduceIte, sN2, sN3, reduceCtorEq, sN4, sI1, sI2, sI3, sN5, sN6, Tryz.f127, retG, resL, St.closeVs, St.closeV, e5, e2, m128a, m128b, m128c, m128d, m128e, e1])
    rw [← hL, ownL_at key t.ws i (by omega), if_pos he]
  · rw [wr (by omega)]
    rw [ownL_at key t.ws i (by omega), if_neg hne] at hL
    exact ⟨i + 1, ⟨⟨by omega, hL⟩, rfl⟩, by omega⟩
  · (refine hQ _ ?_; simp only [vmA, sN1, reduceIte, sN2, sN3, reduceCtorEq, sN4, sI1, sI2, sI3, sN5, sN6, Tryz.f127, retG, resL, St.closeVs, St.closeV, e5, e2, m128a, m128b, m128c, m128d, m128e, e1])
    rw [← hL, List.drop_of_length_le (by omega)]
    rfl
theorem f130 (h : Hs) (t : Tx) (ho : okH h) (ht : okX t) : FxR 130 [hA h, xA t] fun r l => (∃ b, r = .bool b) ∧ l = .und := by
  have h1 := ho.n
  have h2 := ho.m
  have h3 := ht.2.1
  refine fn_ofR ⟨false, [], []⟩ Tryz.func130 (by kernel_rfl) rfl (by kernel_rfl) (by kernel_rfl) (Nat.le_of_ble_eq_true rfl) rfl fun Q hQ => ?_
  simp only [vmA, sN1, reduceIte, sN2, sN3, reduceCtorEq, sN4, sI1, sI2, sI3, sN5, sN6, hA, xA]
  refine WT_loop (fun (i : Nat) σ => (i ≤ t.ws.length) ∧ σ.sl 5 = .int .i64 i ∧ σ.sl 2 = .ptr 128 1 0 0 ∧ (σ.en 128).live = true ∧ (σ.en 128).gen = 1 ∧ (σ.en 128).frz = false ∧ (σ.en 128).sz = 3 ∧ (σ.en 128).elems = [hA h] ∧ σ.sl 3 = .ptr 192 1 0 0 ∧ (σ.en 192).live = true ∧ (σ.en 192).gen = 1 ∧ (σ.en 192).frz = false ∧ (σ.en 192).sz = 5 ∧ (σ.en 192).elems = [xA t]) (fun i => t.ws.length - i) (0) ⟨Nat.zero_le _, by simp [vmI, hA, xA], by simp [vmI, hA, xA], by simp [vmI, hA, xA], by simp [vmI, hA, xA], by simp [vmI, hA, xA], by simp [vmI, hA, xA], by simp [vmI, hA, xA], by simp [vmI, hA, xA], by simp [vmI, hA, xA], by simp [vmI, hA, xA], by simp [vmI, hA, xA], by simp [vmI, hA, xA], by simp [vmI, hA, xA]⟩ ?_
  rintro i σ ⟨hi, e5, e2, m128a, m128b, m128c, m128d, m128e, e3, m192a, m192b, m192c, m192d, m192e⟩
  simp only [vmA, sN1, reduceIte, sN2, sN3, reduceCtorEq, sN4, sI1, sI2, sI3, sN5, sN6, e5, e2, m128a, m128b, m128c, m128d, m128e, e3, m192a, m192b, m192c, m192d, m192e, hA, xA, wA, List.length_map]
  refine ⟨fun g1 => ⟨g1, by omega, ?_⟩, fun g1 => ?_⟩
  · refine callD (f103 _ false _ (by omega) ho.row) ?_
    simp only [vmA, sN1, reduceIte, sN2, sN3, reduceCtorEq, sN4, sI1, sI2, sI3, sN5, sN6, e5, e2, m128a, m128b, m128c, m128d, m128e, e3, m192a, m192b, m192c, m192d, m192e, hA, xA, wA, List.length_map]
    refine WT_loop (fun (zz : Nat × Bool) σ => (zz.1 ≤ h.tx.length) ∧ σ.sl 8 = .int .i64 zz.1 ∧ σ.sl 7 = .bool zz.2 ∧ σ.sl 5 = .int .i64 i ∧ σ.sl 6 = .int .i64 t.ws[i]!.key ∧ σ.sl 2 = .ptr 128 1 0 0 ∧ (σ.en 128).live = true ∧ (σ.en 128).gen = 1 ∧ (σ.en 128).frz = false ∧ (σ.en 128).sz = 3 ∧ (σ.en 128).elems = [hA h] ∧ σ.sl 3 = .ptr 192 1 0 0 ∧ (σ.en 192).live = true ∧ (σ.en 192).gen = 1 ∧ (σ.en 192).frz = false ∧ (σ.en 192).sz = 5 ∧ (σ.en 192).elems = [xA t]) (fun zz => h.tx.length - zz.1) ((0, decide (t.bg < lastS h.vs t.ws[i]!.key))) ⟨Nat.zero_le _, by simp [vmI, e5, e2, m128a, m128b, m128c, m128d, m128e, e3, m192a, m192b, m192c, m192d, m192e, hA, xA], by simp [vmI, e5, e2, m128a, m128b, m128c, m128d, m128e, e3, m192a, m192b, m192c, m192d, m192e, hA, xA], by simp [vmI, e5, e2, m128a, m128b, m128c, m128d, m128e, e3, m192a, m192b, m192c, m192d, m192e, hA, xA], by simp [vmI, e5, e2, m128a, m128b, m128c, m128d, m128e, e3, m192a, m192b, m192c, m192d, m192e, hA, xA], by simp [vmI, e5, e2, m128a, m128b, m128c, m128d, m128e, e3, m192a, m192b, m192c, m192d, m192e, hA, xA], by simp [vmI, e5, e2, m128a, m128b, m128c, m128d, m128e, e3, m192a, m192b, m192c, m192d, m192e, hA, xA], by simp [vmI, e5, e2, m128a, m128b, m128c, m128d, m128e, e3, m192a, m192b, m192c, m192d, m192e, hA, xA], by simp [vmI, e5, e2, m128a, m128b, m128c, m128d, m128e, e3, m192a, m192b, m192c, m192d, m192e, hA, xA], by simp [vmI, e5, e2, m128a, m128b, m128c, m128d, m128e, e3, m192a, m192b, m192c, m192d, m192e, hA, xA], by simp [vmI, e5, e2, m128a, m128b, m128c, m128d, m128e, e3, m192a, m192b, m192c, m192d, m192e, hA, xA], by simp [vmI, e5, e2, m128a, m128b, m128c, m128d, m128e, e3, m192a, m192b, m192c, m192d, m192e, hA, xA], by simp [vmI, e5, e2, m128a, m128b, m128c, m128d, m128e, e3, m192a, m192b, m192c, m192d, m192e, hA, xA], by simp [vmI, e5, e2, m128a, m128b, m128c, m128d, m128e, e3, m192a, m192b, m192c, m192d, m192e, hA, xA], by simp [vmI, e5, e2, m128a, m128b, m128c, m128d, m128e, e3, m192a, m192b, m192c, m192d, m192e, hA, xA], by simp [vmI, e5, e2, m128a, m128b, m128c, m128d, m128e, e3, m192a, m192b, m192c, m192d, m192e, hA, xA], by simp [vmI, e5, e2, m128a, m128b, m128c, m128d, m128e, e3, m192a, m192b, m192c, m192d, m192e, hA, xA]⟩ ?_
    clear e5 e2 m128a m128b m128c m128d m128e e3 m192a m192b m192c m192d m192e
    rintro ⟨j, b⟩ σ ⟨hj, e8, e7, e5, e6, e2, m128a, m128b, m128c, m128d, m128e, e3, m192a, m192b, m192c, m192d, m192e⟩
    try dsimp only at e8 e7 e5 e6 e2 m128a m128b m128c m128d m128e e3 m192a m192b m192c m192d m192e hj
    cases b
    · simp only [vmA, sN1, reduceIte, sN2, sN3, reduceCtorEq, sN4, sI1, sI2, sI3, sN5, sN6, e8, e7, e5, e6, e2, m128a, m128b, m128c, m128d, m128e, e3, m192a, m192b, m192c, m192d, m192e, hA, xA, wA, List.length_map]
      refine ⟨fun g2 => ⟨g2, by omega, fun g3 => ⟨g2, by omega, fun g4 => ⟨g2, by omega, ?_⟩, fun g4 => ?_⟩, fun g3 => ?_⟩, fun g2 => ?_⟩
      · have hx := ho.at (i := j) (by omega)
        refine callD (f127x h.tx[j]! _ hx.2.1) ?_
        simp only [vmA, sN1, reduceIte, sN2, sN3, reduceCtorEq, sN4, sI1, sI2, sI3, sN5, sN6, e8, e7, e5, e6, e2, m128a, m128b, m128c, m128d, m128e, e3, m192a, m192b, m192c, m192d, m192e, hA, xA, wA, List.length_map]
        rw [wr (by omega)]
        exact ⟨(j + 1, _), ⟨by dsimp only; omega, rfl, rfl⟩, by dsimp only; omega⟩
      · rw [wr (by omega)]
        exact ⟨(j + 1, false), ⟨by dsimp only; omega, rfl, rfl⟩, by dsimp only; omega⟩
      · rw [wr (by omega)]
        exact ⟨(j + 1, false), ⟨by dsimp only; omega, rfl, rfl⟩, by dsimp only; omega⟩
      · rw [wr (by omega)]
        exact ⟨i + 1, ⟨by omega, rfl⟩, by omega⟩
    · simp only [vmA, sN1, reduceIte, sN2, sN3, reduceCtorEq, sN4, sI1, sI2, sI3, sN5, sN6, e8, e7, e5, e6, e2, m128a, m128b, m128c, m128d, m128e, e3, m192a, m192b, m192c, m192d, m192e, hA, xA, wA, List.length_map]
      refine ⟨fun g2 => ?_, fun g2 => ?_⟩
      · rw [wr (by omega)]
        exact ⟨(j + 1, true), ⟨by dsimp only; omega, rfl, rfl⟩, by dsimp only; omega⟩
      · (refine hQ _ ?_; simp only [vmA, sN1, reduceIte, sN2, sN3, reduceCtorEq, sN4, sI1, sI2, sI3, sN5, sN6, Tryz.f130, retG, resL, St.closeVs, St.closeV, e8, e7, e5, e6, e2, m128a, m128b, m128c, m128d, m128e, e3, m192a, m192b, m192c, m192d, m192e])
        exact ⟨_, rfl⟩
  · (refine hQ _ ?_; simp only [vmA, sN1, reduceIte, sN2, sN3, reduceCtorEq, sN4, sI1, sI2, sI3, sN5, sN6, Tryz.f130, retG, resL, St.closeVs, St.closeV, e5, e2, m128a, m128b, m128c, m128d, m128e, e3, m192a, m192b, m192c, m192d, m192e])
    exact ⟨_, rfl⟩
