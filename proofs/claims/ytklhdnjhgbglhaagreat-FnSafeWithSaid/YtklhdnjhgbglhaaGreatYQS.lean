/- WALK, or plain laws for it: theorem f<k> says what function k returns. Conditions: none but those ahead of each theorem. -/
import Derived.Test.YtklhdnjhgbglhaaGreatYP6
import Derived.Test.YtklhdnjhgbglhaaGreatYH12
import Derived.Test.YtklhdnjhgbglhaaGreatYQ2
set_option linter.unusedVariables false
set_option linter.unusedSimpArgs false
open Nat renaming reduceEqDiff → sN1, reduceAdd → sN2, reduceBEq → sN3, reduceLT → sN4, reduceMul → sN5, reduceLeDiff → sN6, reduceSub → sN7
open Int renaming reduceLE → sI1, reduceLT → sI2, reduceEq → sI3
section
open Go Go.Vm Go.Proofs
set_option maxRecDepth 100000
set_option maxHeartbeats 8000000
set_option maxHeartbeats 16000000
theorem hasFroL_gO (ws : List Ver) : hasFro.hasFroL (ws.map gO) = false := by
  induction ws with
  | nil => rfl
  | cons w ws ih => simp only [List.map_cons, hasFro.hasFroL, ih, Bool.or_false, gO, hasFro, hasFroL_vA]
theorem hasFroL_iA (xs : List Int) : hasFro.hasFroL (xs.map iA) = false := by
  induction xs with
  | nil => rfl
  | cons x xs ih => simp only [List.map_cons, hasFro.hasFroL, ih, Bool.or_false, hasFro]
theorem hasFroL_wO (ws : List Wr) : hasFro.hasFroL (ws.map wO) = false := by
  induction ws with
  | nil => rfl
  | cons w ws ih => simp only [List.map_cons, hasFro.hasFroL, ih, Bool.or_false, wO, hasFro, hasFroL_vA]
theorem hasFroL_xO (ws : List Tx) : hasFro.hasFroL (ws.map xO) = false := by
  induction ws with
  | nil => rfl
  | cons w ws ih => simp only [List.map_cons, hasFro.hasFroL, ih, Bool.or_false, xO, hasFro, hasFroL_iA, hasFroL_wO]
end
section
open Go Go.Vm Go.Proofs
set_option maxRecDepth 100000
set_option maxHeartbeats 16000000
def znA (k who : Int) : AV := .agg [.int .i64 k, .int .i64 who, .int .i64 0, .fro none true []]
theorem f71Z (h : Hs) (k who : Int) (hp : houseP h) : FxR 70 [hA h, znA k who] fun r l => ∃ (h' : Hs) (n : Int), r = .tup [hA h', .int .i64 n] ∧ houseP h' ∧ l = .und := by
  have h0 := f71A h ⟨k, who, 0, []⟩ hp ⟨by simp, by simp⟩ (by simp)
  have e : List.map wk [hA h, znA k who] = [hA h, mA ⟨k, who, 0, []⟩] := by
    simp only [List.map_cons, List.map_nil, hA, wk, wkL, wkL_eq, map_wk_gA, wk_xAs, znA, mA]
  exact ⟨h0.1, DoesR.wkA (args := [hA h, znA k who]) (by rw [e]; exact h0.2) (by kernel_rfl) rfl⟩
theorem f22 (h : Hs) (m : Mv) (hp : houseP h) (hm : okR m.row) (hm2 : m.row.length ≤ 1048576) : FxR 22 [hA h, mA m] fun r l => ∃ (h' : Hs) (n : Int), r = .tup [hA h', .int .i64 n] ∧ houseP h' ∧ l = .und := by
  refine fn_ofR ⟨true, [], []⟩ Tryz.func22 (by kernel_rfl) rfl (by kernel_rfl) (by kernel_rfl) (Nat.le_of_ble_eq_true rfl) rfl fun Q hQ => ?_
  simp only [vmA, sN1, reduceIte, sN2, sN3, reduceCtorEq, sN4, sI1, sI2, sI3, sN5, sN6, hA, mA]
  refine callR (f71A h m hp hm hm2) ?_
  rintro _ _ ⟨h1, n, rfl, hp1, rfl⟩
  cases hb : hasFro (AV.tup [hA h1, .int .i64 n])
  · simp only [behind_nf hb]
    simp only [vmA, sN1, reduceIte, sN2, sN3, reduceCtorEq, sN4, sI1, sI2, sI3, sN5, sN6, hA, mA, Option.bind_none]
    refine ⟨fun k5 => ?_, fun k5 => ⟨fun n1 => ?_, fun n1 => callD (f71 h1 (okH_P hp1) hp1) ?_⟩⟩
    · (refine hQ _ ?_; simp only [vmA, sN1, reduceIte, sN2, sN3, reduceCtorEq, sN4, sI1, sI2, sI3, sN5, sN6, Tryz.f22, retG, resL, St.closeVs, St.closeV, hA, mA, Option.bind_none])
      exact ⟨h1, n, rfl, hp1⟩
    · (refine hQ _ ?_; simp only [vmA, sN1, reduceIte, sN2, sN3, reduceCtorEq, sN4, sI1, sI2, sI3, sN5, sN6, Tryz.f22, retG, resL, St.closeVs, St.closeV, hA, mA, Option.bind_none])
      exact ⟨h1, n, rfl, hp1⟩
    · simp only [vmA, sN1, reduceIte, sN2, sN3, reduceCtorEq, sN4, sI1, sI2, sI3, sN5, sN6, hA, mA, Option.bind_none, List.length_map, behind_nf, hasFro, hasFroL_iA]
      refine ⟨fun d => ?_, fun d => callR (f71Z h 6 m.who hp) ?_⟩
      · (refine hQ _ ?_; simp only [vmA, sN1, reduceIte, sN2, sN3, reduceCtorEq, sN4, sI1, sI2, sI3, sN5, sN6, Tryz.f22, retG, resL, St.closeVs, St.closeV, hA, mA, Option.bind_none])
        exact ⟨h1, n, rfl, hp1⟩
      · rintro _ _ ⟨h2, n2, rfl, hp2, rfl⟩
        cases hb2 : hasFro (AV.tup [hA h2, .int .i64 n2])
        · simp only [behind_nf hb2]
          simp only [vmA, sN1, reduceIte, sN2, sN3, reduceCtorEq, sN4, sI1, sI2, sI3, sN5, sN6, hA, mA, Option.bind_none]
          (refine hQ _ ?_; simp only [vmA, sN1, reduceIte, sN2, sN3, reduceCtorEq, sN4, sI1, sI2, sI3, sN5, sN6, Tryz.f22, retG, resL, St.closeVs, St.closeV, hA, mA, Option.bind_none])
          exact ⟨h2, 2, rfl, hp2⟩
        · simp only [behind_yes hb2]
          simp only [vmA, sN1, reduceIte, sN2, sN3, reduceCtorEq, sN4, sI1, sI2, sI3, sN5, sN6, hA, mA, Option.bind_none, freezeL, lentOf]
          (refine hQ _ ?_; simp only [vmA, sN1, reduceIte, sN2, sN3, reduceCtorEq, sN4, sI1, sI2, sI3, sN5, sN6, Tryz.f22, retG, resL, St.closeVs, St.closeV, hA, mA, Option.bind_none])
          exact ⟨h2, 2, rfl, hp2⟩
  · simp only [behind_yes hb]
    simp only [vmA, sN1, reduceIte, sN2, sN3, reduceCtorEq, sN4, sI1, sI2, sI3, sN5, sN6, hA, mA, Option.bind_none, freezeL, lentOf]
    refine ⟨fun k5 => ?_, fun k5 => ⟨fun n1 => ?_, fun n1 => callD (f71 h1 (okH_P hp1) hp1) ?_⟩⟩
    · (refine hQ _ ?_; simp only [vmA, sN1, reduceIte, sN2, sN3, reduceCtorEq, sN4, sI1, sI2, sI3, sN5, sN6, Tryz.f22, retG, resL, St.closeVs, St.closeV, hA, mA, Option.bind_none])
      exact ⟨h1, n, rfl, hp1⟩
    · (refine hQ _ ?_; simp only [vmA, sN1, reduceIte, sN2, sN3, reduceCtorEq, sN4, sI1, sI2, sI3, sN5, sN6, Tryz.f22, retG, resL, St.closeVs, St.closeV, hA, mA, Option.bind_none])
      exact ⟨h1, n, rfl, hp1⟩
    · simp only [vmA, sN1, reduceIte, sN2, sN3, reduceCtorEq, sN4, sI1, sI2, sI3, sN5, sN6, hA, mA, Option.bind_none, List.length_map, behind_nf, hasFro, hasFroL_iA]
      refine ⟨fun d => ?_, fun d => callR (f71Z h 6 m.who hp) ?_⟩
      · (refine hQ _ ?_; simp only [vmA, sN1, reduceIte, sN2, sN3, reduceCtorEq, sN4, sI1, sI2, sI3, sN5, sN6, Tryz.f22, retG, resL, St.closeVs, St.closeV, hA, mA, Option.bind_none])
        exact ⟨h1, n, rfl, hp1⟩
      · rintro _ _ ⟨h2, n2, rfl, hp2, rfl⟩
        cases hb2 : hasFro (AV.tup [hA h2, .int .i64 n2])
        · simp only [behind_nf hb2]
          simp only [vmA, sN1, reduceIte, sN2, sN3, reduceCtorEq, sN4, sI1, sI2, sI3, sN5, sN6, hA, mA, Option.bind_none]
          (refine hQ _ ?_; simp only [vmA, sN1, reduceIte, sN2, sN3, reduceCtorEq, sN4, sI1, sI2, sI3, sN5, sN6, Tryz.f22, retG, resL, St.closeVs, St.closeV, hA, mA, Option.bind_none])
          exact ⟨h2, 2, rfl, hp2⟩
        · simp only [behind_yes hb2]
          simp only [vmA, sN1, reduceIte, sN2, sN3, reduceCtorEq, sN4, sI1, sI2, sI3, sN5, sN6, hA, mA, Option.bind_none, freezeL, lentOf]
          (refine hQ _ ?_; simp only [vmA, sN1, reduceIte, sN2, sN3, reduceCtorEq, sN4, sI1, sI2, sI3, sN5, sN6, Tryz.f22, retG, resL, St.closeVs, St.closeV, hA, mA, Option.bind_none])
          exact ⟨h2, 2, rfl, hp2⟩
theorem f38 (h : Hs) (hp : houseP h) (ms : List Mv) (c : Bool) (hn : ms.length ≤ 1048576) (hm : ∀ m ∈ ms, okR m.row ∧ m.row.length ≤ 1048576) : FxR 38 [hA h, .fro none c (ms.map mA)] fun r l => ∃ h', r = hA h' ∧ houseP h' ∧ l = .und := by
  have ho := okH_P hp
  have hs := okH_smX hp
  have hl := hp.2.2.2.1
  refine fn_ofX ⟨true, [], [(7, [], [0, 1, 2, 3, 4, 5, 6, 7, 8, 9])]⟩ Tryz.func38 (by kernel_rfl) rfl (by kernel_rfl) (by kernel_rfl) (Nat.le_of_ble_eq_true rfl) rfl fun Q hQ => ?_
  simp only [tr_seq, tr_block, tr_loop, tr_cond, tr_skip, tr_exit, tr_ret, tr_reg]
  rw [tr_any 7 [(0, [], 0), (0, [], 1), (0, [], 2), (0, [], 3), (0, [], 4), (1, [0, 1, 2, 3, 4], 5), (0, [], 6), (0, [], 7), (0, [], 8), (1, [6, 7, 8], 9), (2, [8], 0)] (by kernel_rfl)]
  simp only [codeA_nil, codeA_look, codeA_hard, codeA_fin, ordC_leaf, ordC_one, ordC_both, pickL, List.getElem?_toArray, List.getElem?_cons_zero, List.getElem?_cons_succ]
  simp only [vmA, sN1, reduceIte, sN2, sN3, reduceCtorEq, sN4, sI1, sI2, sI3, sN5, sN6, hA, Option.bind_none]
  refine callD (f53 h ho) ?_
  simp only [vmA, sN1, reduceIte, sN2, sN3, reduceCtorEq, sN4, sI1, sI2, sI3, sN5, sN6, hA, decide_eq_true hp, Option.bind_none]
  refine callR (f70A h hp) ?_
  rintro _ _ ⟨rfl, rfl⟩
  cases hb0 : hasFro (hA h)
  · simp only [behind_nf hb0]
    simp only [vmA, sN1, reduceIte, sN2, sN3, reduceCtorEq, sN4, sI1, sI2, sI3, sN5, sN6, hA, Option.bind_none]
    refine WT_loop (fun (zz : Nat × Hs) σ => (zz.1 ≤ ms.length ∧ houseP zz.2) ∧ σ.sl 6 = .int .i64 zz.1 ∧ σ.sl 1 = .fro none c (ms.map mA) ∧ σ.sl 4 = .ptr 256 1 0 0 ∧ (σ.en 256).live = true ∧ (σ.en 256).gen = 1 ∧ (σ.en 256).frz = false ∧ (σ.en 256).sz = 3 ∧ (σ.en 256).elems = [.agg [.fro none true [], .int .i64 0, .fro none true []]] ∧ σ.sl 5 = .ptr 320 1 0 0 ∧ (σ.en 320).live = true ∧ (σ.en 320).gen = 1 ∧ (σ.en 320).frz = false ∧ (σ.en 320).sz = 3 ∧ (σ.en 320).elems = [hA zz.2]) (fun zz => ms.length - zz.1) ((0, h)) ⟨⟨Nat.zero_le _, hp⟩, by simp [vmI, hA], by simp [vmI, hA], by simp [vmI, hA], by simp [vmI, hA], by simp [vmI, hA], by simp [vmI, hA], by simp [vmI, hA], by simp [vmI, hA], by simp [vmI, hA], by simp [vmI, hA], by simp [vmI, hA], by simp [vmI, hA], by simp [vmI, hA], by simp [vmI, hA]⟩ ?_
    rintro ⟨i, h'⟩ σ ⟨hi, e6, e1, e4, m256a, m256b, m256c, m256d, m256e, e5, m320a, m320b, m320c, m320d, m320e⟩
    try dsimp only at e6 e1 e4 m256a m256b m256c m256d m256e e5 m320a m320b m320c m320d m320e hi
    obtain ⟨hi, hp'⟩ := hi
    simp only [vmA, sN1, reduceIte, sN2, sN3, reduceCtorEq, sN4, sI1, sI2, sI3, sN5, sN6, e6, e1, e4, m256a, m256b, m256c, m256d, m256e, e5, m320a, m320b, m320c, m320d, m320e, hA, List.length_map, Option.bind_none]
    refine ⟨fun hlt => ⟨by omega, ?_⟩, fun hge => ?_⟩
    · have hmi : ms[i]! ∈ ms := by rw [getElem!_pos ms i (by omega)]; exact List.getElem_mem _
      have hmm := hm _ hmi
      simp only [vmA, sN1, reduceIte, sN2, sN3, reduceCtorEq, sN4, sI1, sI2, sI3, sN5, sN6, e6, e1, e4, m256a, m256b, m256c, m256d, m256e, e5, m320a, m320b, m320c, m320d, m320e, hA, mA, List.length_map, Option.bind_none]
      refine ⟨by omega, ⟨by omega, by omega⟩, callR (f22 h' ms[i]! hp' hmm.1 hmm.2) ?_⟩
      rintro _ _ ⟨h2, n, rfl, hp2, rfl⟩
      cases hb : hasFro (AV.tup [hA h2, .int .i64 n])
      · simp only [behind_nf hb]
        simp only [vmA, sN1, reduceIte, sN2, sN3, reduceCtorEq, sN4, sI1, sI2, sI3, sN5, sN6, e6, e1, e4, m256a, m256b, m256c, m256d, m256e, e5, m320a, m320b, m320c, m320d, m320e, hA, mA, List.length_map, Option.bind_none]
        rw [wr (by omega)]
        exact ⟨(i + 1, h2), ⟨⟨by dsimp only; omega, hp2⟩, rfl, rfl⟩, by dsimp only; omega⟩
      · simp only [behind_yes hb]
        simp only [vmA, sN1, reduceIte, sN2, sN3, reduceCtorEq, sN4, sI1, sI2, sI3, sN5, sN6, e6, e1, e4, m256a, m256b, m256c, m256d, m256e, e5, m320a, m320b, m320c, m320d, m320e, hA, mA, List.length_map, Option.bind_none, freezeL, lentOf]
        rw [wr (by omega)]
        exact ⟨(i + 1, h2), ⟨⟨by dsimp only; omega, hp2⟩, rfl, rfl⟩, by dsimp only; omega⟩
    · (refine hQ _ ?_; simp only [vmA, sN1, reduceIte, sN2, sN3, reduceCtorEq, sN4, sI1, sI2, sI3, sN5, sN6, Tryz.f38, retG, resL, St.closeVs, St.closeV, e6, e1, e4, m256a, m256b, m256c, m256d, m256e, e5, m320a, m320b, m320c, m320d, m320e, hA, Option.bind_none])
      exact ⟨h', rfl, hp'⟩
  · simp only [behind_yes hb0]
    simp only [vmA, sN1, reduceIte, sN2, sN3, reduceCtorEq, sN4, sI1, sI2, sI3, sN5, sN6, hA, Option.bind_none, freezeL, lentOf]
    refine WT_loop (fun (zz : Nat × Hs) σ => (zz.1 ≤ ms.length ∧ houseP zz.2) ∧ σ.sl 6 = .int .i64 zz.1 ∧ σ.sl 1 = .fro none c (ms.map mA) ∧ σ.sl 4 = .ptr 256 1 0 0 ∧ (σ.en 256).live = true ∧ (σ.en 256).gen = 1 ∧ (σ.en 256).frz = false ∧ (σ.en 256).sz = 3 ∧ (σ.en 256).elems = [.agg [.fro none true [], .int .i64 0, .fro none true []]] ∧ σ.sl 5 = .ptr 320 1 0 0 ∧ (σ.en 320).live = true ∧ (σ.en 320).gen = 1 ∧ (σ.en 320).frz = false ∧ (σ.en 320).sz = 3 ∧ (σ.en 320).elems = [hA zz.2]) (fun zz => ms.length - zz.1) ((0, h)) ⟨⟨Nat.zero_le _, hp⟩, by simp [vmI, hA], by simp [vmI, hA], by simp [vmI, hA], by simp [vmI, hA], by simp [vmI, hA], by simp [vmI, hA], by simp [vmI, hA], by simp [vmI, hA], by simp [vmI, hA], by simp [vmI, hA], by simp [vmI, hA], by simp [vmI, hA], by simp [vmI, hA], by simp [vmI, hA]⟩ ?_
    rintro ⟨i, h'⟩ σ ⟨hi, e6, e1, e4, m256a, m256b, m256c, m256d, m256e, e5, m320a, m320b, m320c, m320d, m320e⟩
    try dsimp only at e6 e1 e4 m256a m256b m256c m256d m256e e5 m320a m320b m320c m320d m320e hi
    obtain ⟨hi, hp'⟩ := hi
    simp only [vmA, sN1, reduceIte, sN2, sN3, reduceCtorEq, sN4, sI1, sI2, sI3, sN5, sN6, e6, e1, e4, m256a, m256b, m256c, m256d, m256e, e5, m320a, m320b, m320c, m320d, m320e, hA, List.length_map, Option.bind_none]
    refine ⟨fun hlt => ⟨by omega, ?_⟩, fun hge => ?_⟩
    · have hmi : ms[i]! ∈ ms := by rw [getElem!_pos ms i (by omega)]; exact List.getElem_mem _
      have hmm := hm _ hmi
      simp only [vmA, sN1, reduceIte, sN2, sN3, reduceCtorEq, sN4, sI1, sI2, sI3, sN5, sN6, e6, e1, e4, m256a, m256b, m256c, m256d, m256e, e5, m320a, m320b, m320c, m320d, m320e, hA, mA, List.length_map, Option.bind_none]
      refine ⟨by omega, ⟨by omega, by omega⟩, callR (f22 h' ms[i]! hp' hmm.1 hmm.2) ?_⟩
      rintro _ _ ⟨h2, n, rfl, hp2, rfl⟩
      cases hb : hasFro (AV.tup [hA h2, .int .i64 n])
      · simp only [behind_nf hb]
        simp only [vmA, sN1, reduceIte, sN2, sN3, reduceCtorEq, sN4, sI1, sI2, sI3, sN5, sN6, e6, e1, e4, m256a, m256b, m256c, m256d, m256e, e5, m320a, m320b, m320c, m320d, m320e, hA, mA, List.length_map, Option.bind_none]
        rw [wr (by omega)]
        exact ⟨(i + 1, h2), ⟨⟨by dsimp only; omega, hp2⟩, rfl, rfl⟩, by dsimp only; omega⟩
      · simp only [behind_yes hb]
        simp only [vmA, sN1, reduceIte, sN2, sN3, reduceCtorEq, sN4, sI1, sI2, sI3, sN5, sN6, e6, e1, e4, m256a, m256b, m256c, m256d, m256e, e5, m320a, m320b, m320c, m320d, m320e, hA, mA, List.length_map, Option.bind_none, freezeL, lentOf]
        rw [wr (by omega)]
        exact ⟨(i + 1, h2), ⟨⟨by dsimp only; omega, hp2⟩, rfl, rfl⟩, by dsimp only; omega⟩
    · (refine hQ _ ?_; simp only [vmA, sN1, reduceIte, sN2, sN3, reduceCtorEq, sN4, sI1, sI2, sI3, sN5, sN6, Tryz.f38, retG, resL, St.closeVs, St.closeV, e6, e1, e4, m256a, m256b, m256c, m256d, m256e, e5, m320a, m320b, m320c, m320d, m320e, hA, Option.bind_none])
      exact ⟨h', rfl, hp'⟩
end
