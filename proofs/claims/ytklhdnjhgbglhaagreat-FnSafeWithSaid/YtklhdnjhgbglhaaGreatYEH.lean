/- WALK, or plain laws for it: theorem f<k> says what function k returns. Conditions: none but those ahead of each theorem. -/
import Derived.Test.YtklhdnjhgbglhaaGreatYH6
import Derived.Test.YtklhdnjhgbglhaaGreatYP6
import Derived.Test.YtklhdnjhgbglhaaGreatYH5
import Derived.Test.YtklhdnjhgbglhaaGreatYN2
set_option linter.unusedVariables false
set_option linter.unusedSimpArgs false
open Nat renaming reduceEqDiff → sN1, reduceAdd → sN2, reduceBEq → sN3, reduceLT → sN4, reduceMul → sN5, reduceLeDiff → sN6, reduceSub → sN7
open Int renaming reduceLE → sI1, reduceLT → sI2, reduceEq → sI3
section
open Go Go.Vm Go.Proofs
set_option maxRecDepth 100000
set_option maxHeartbeats 8000000
theorem f114 (xs : List Int) : FxR 114 [.own 1 (xs.map iA)] fun r l => r = .own 1 (xs.map iA) ∧ l = .tup [] := by
  refine fn_ofW false (k := 0) Tryz.func114 (by kernel_rfl) rfl (by kernel_rfl) (by kernel_rfl) (Nat.le_of_ble_eq_true rfl) rfl ⟨_, _, .inl rfl⟩ rfl fun Q hQ => ?_
  simp only [vmA, sN1, reduceIte, sN2, sN3, reduceCtorEq, sN4, sI1, sI2, sI3, sN5, sN6, List.length_map]
  (refine hQ _ ?_; simp only [vmA, sN1, reduceIte, sN2, sN3, reduceCtorEq, sN4, sI1, sI2, sI3, sN5, sN6, Tryz.f114, retG, resL, St.closeVs, St.closeV, leftV, ghostW, List.length_map, take_map_len, Nat.sub_zero, Int.toNat_zero])
theorem f90 (xs : List Int) (c : Bool) (hl : xs.length ≤ 1048576) : Fx 90 [.fro none c (xs.map iA)] (.own 1 (xs.map iA)) := by
  refine FxR.weakR' (R := fun r l => ((xs = [] ∧ r = .fro none true []) ∨ r = .own 1 (xs.map iA)) ∧ l = .und) ?_ ?_
  rotate_left
  · rintro _ _ ⟨⟨rfl, rfl⟩ | rfl, rfl⟩
    · exact ⟨_, ⟨rfl, rfl⟩, weak_nil 1⟩
    · exact ⟨_, ⟨rfl, rfl⟩, Weak.refl _⟩
  refine fn_ofR false Tryz.func90 (by kernel_rfl) rfl (by kernel_rfl) (by kernel_rfl) (Nat.le_of_ble_eq_true rfl) rfl fun Q hQ => ?_
  simp only [vmA, sN1, reduceIte, sN2, sN3, reduceCtorEq, sN4, sI1, sI2, sI3, sN5, sN6, List.length_map]
  refine ⟨fun h => ?_, fun h => ?_⟩
  · (refine hQ _ ?_; simp only [vmA, sN1, reduceIte, sN2, sN3, reduceCtorEq, sN4, sI1, sI2, sI3, sN5, sN6, Tryz.f90, retG, resL, St.closeVs, St.closeV])
    exact List.eq_nil_of_length_eq_zero (by omega)
  · refine ⟨fun z hz => ?_, ?_⟩
    · obtain ⟨b, _, rfl⟩ := List.mem_map.1 hz; rfl
    refine ⟨.inl trivial, by omega, callR (f114 xs) ?_⟩
    rintro _ _ ⟨rfl, rfl⟩
    simp only [vmA, sN1, reduceIte, sN2, sN3, reduceCtorEq, sN4, sI1, sI2, sI3, sN5, sN6, List.length_map]
    (refine hQ _ ?_; simp only [vmA, sN1, reduceIte, sN2, sN3, reduceCtorEq, sN4, sI1, sI2, sI3, sN5, sN6, Tryz.f90, retG, resL, St.closeVs, St.closeV, List.length_map, take_map_len])
end
section
open Go Go.Vm Go.Proofs
set_option maxRecDepth 100000
set_option maxHeartbeats 16000000
theorem f111 (xs : List Tx) : FxR 111 [.own 5 (xs.map xO)] fun r l => r = .own 5 (xs.map xO) ∧ l = .tup [] := by
  refine fn_ofW false (k := 0) Tryz.func111 (by kernel_rfl) rfl (by kernel_rfl) (by kernel_rfl) (Nat.le_of_ble_eq_true rfl) rfl ⟨_, _, .inl rfl⟩ rfl fun Q hQ => ?_
  simp only [vmA, sN1, reduceIte, sN2, sN3, reduceCtorEq, sN4, sI1, sI2, sI3, sN5, sN6, List.length_map]
  (refine hQ _ ?_; simp only [vmA, sN1, reduceIte, sN2, sN3, reduceCtorEq, sN4, sI1, sI2, sI3, sN5, sN6, Tryz.f111, retG, resL, St.closeVs, St.closeV, leftV, ghostW, List.length_map, take_map_len, Nat.sub_zero, Int.toNat_zero])
theorem f59 (h : Hs) (h1 : h.vs.length ≤ 1048576) (h2 : ∀ v ∈ h.vs, v.row.length ≤ 1048576) (h3 : h.tx.length ≤ 1048576) (h4 : ∀ t ∈ h.tx, smX t) (h5 : 0 < h.tx.length) : Fx 59 [hA h] (hO2 h) := by
  refine FxR.mono (R := fun r l => r = hO2 h ∧ l = .und) ?_ (fun _ _ h => h)
  refine fn_ofX ⟨true, [28, 35], [(1, [], [1000, 0, 1, 3, 4]), (5, [], [0, 1, 3, 4, 2, 6, 5, 7, 8, 9])]⟩ Tryz.func59 (by kernel_rfl) rfl (by kernel_rfl) (by kernel_rfl) (Nat.le_of_ble_eq_true rfl) rfl fun Q hQ => ?_
  simp only [tr_seq, tr_block, tr_loop, tr_cond, tr_skip, tr_exit, tr_ret, tr_reg]
  rw [tr_tree 1 [0, 1, 3, 4] (.both 2 (.both 5 (.both 6 (.both 7 .leaf .leaf) .leaf) (.both 6 (.both 5 (.both 7 .leaf .leaf) .leaf) .leaf)) (.both 6 (.both 2 (.both 5 (.both 7 .leaf .leaf) .leaf) .leaf) .leaf)) (by kernel_rfl)]
  rw [tr_any 5 [(0, [], 0), (0, [], 1), (0, [], 3), (0, [], 4), (1, [0, 1, 3, 4], 2), (0, [], 6), (1, [3, 4, 6], 5), (1, [6], 7), (0, [], 8), (1, [8], 9), (2, [], 0)] (by kernel_rfl)]
  simp only [codeA_nil, codeA_look, codeA_hard, codeA_fin, ordC_leaf, ordC_one, ordC_both, pickL, List.getElem?_toArray, List.getElem?_cons_zero, List.getElem?_cons_succ]
  simp only [vmA, sN1, reduceIte, sN2, sN3, reduceCtorEq, sN4, sI1, sI2, sI3, sN5, sN6, hA, List.length_map]
  refine WT_cut (fun σ => (σ.sl 1 = .ptr 64 1 0 0 ∧ enI σ 64 1 3 [hA h]) ∧ (σ.sl 2 = .ptr 128 1 0 0 ∧ enI σ 128 1 3 [.agg [.fro none true [], .int .i64 0, .fro none true []]]) ∧ σ.sl 3 = .ptr 192 1 0 0 ∧ enI σ 192 1 3 [.agg [.own 4 (h.vs.map gO), .int .i64 h.ck, .fro none true []]]) ?_ ?_
  · simp only [vmA, sN1, reduceIte, sN2, sN3, reduceCtorEq, sN4, sI1, sI2, sI3, sN5, sN6, WT_both, hA, List.length_map, Option.bind_none]
    refine ⟨callD (f110 h.vs false h1 h2) ?_, callD (f110 h.vs false h1 h2) ?_⟩
    · simp only [vmA, sN1, reduceIte, sN2, sN3, reduceCtorEq, sN4, sI1, sI2, sI3, sN5, sN6, WT_both, hA, List.length_map, Option.bind_none, enI]
    · simp only [vmA, sN1, reduceIte, sN2, sN3, reduceCtorEq, sN4, sI1, sI2, sI3, sN5, sN6, WT_both, hA, List.length_map, Option.bind_none, enI]
  · rintro σ ⟨⟨e1, a1, a2, a3, a4, a5⟩, ⟨e2, b1, b2, b3, b4, b5⟩, e3, c1, c2, c3, c4, c5⟩
    show WT _ _ _ _ _ _
    simp only [vmA, sN1, reduceIte, sN2, sN3, reduceCtorEq, sN4, sI1, sI2, sI3, sN5, sN6, e1, a1, a2, a3, a4, a5, e2, b1, b2, b3, b4, b5, e3, c1, c2, c3, c4, c5, hA, List.length_map]
    refine WT_loop (fun (i : Nat) σ => i ≤ h.tx.length ∧ (σ.sl 1 = .ptr 64 1 0 0 ∧ enI σ 64 1 3 [hA h]) ∧ (σ.sl 2 = .ptr 128 1 0 0 ∧ enI σ 128 1 3 [.agg [.fro none true [], .int .i64 0, .fro none true []]]) ∧ (σ.sl 3 = .ptr 192 1 0 0 ∧ enI σ 192 1 3 [.agg [.own 4 (h.vs.map gO), .int .i64 h.ck, txL h i]]) ∧ σ.sl 15 = .int .i64 i ∧ σ.sl 14 = .int .i64 h.tx.length ∧ σ.sl 13 = .fro none false (h.tx.map xA)) (fun i => h.tx.length - i) 0 ⟨by omega, by simp [vmI, enI, e1, a1, a2, a3, a4, a5, e2, b1, b2, b3, b4, b5, e3, c1, c2, c3, c4, c5, hA], by simp [vmI, enI, e1, a1, a2, a3, a4, a5, e2, b1, b2, b3, b4, b5, e3, c1, c2, c3, c4, c5], by simp [vmI, enI, e1, a1, a2, a3, a4, a5, e2, b1, b2, b3, b4, b5, e3, c1, c2, c3, c4, c5, txL], by simp [vmI], by simp [vmI], by simp [vmI]⟩ ?_
    clear e1 a1 a2 a3 a4 a5 e2 b1 b2 b3 b4 b5 e3 c1 c2 c3 c4 c5
    rintro i σ ⟨hi, ⟨e1, a1, a2, a3, a4, a5⟩, ⟨e2, b1, b2, b3, b4, b5⟩, ⟨e3, c1, c2, c3, c4, c5⟩, e15, e14, e13⟩
    simp only [vmA, sN1, reduceIte, sN2, sN3, reduceCtorEq, sN4, sI1, sI2, sI3, sN5, sN6, e1, a1, a2, a3, a4, a5, e2, b1, b2, b3, b4, b5, e3, c1, c2, c3, c4, c5, e15, e14, e13, hA, List.length_map]
    refine ⟨fun hlt => ⟨hlt, by omega, ?_⟩, fun hge => ?_⟩
    · have hx : smX h.tx[i]! := h4 _ (by rw [getElem!_pos h.tx i (by omega)]; exact List.getElem_mem _)
      obtain ⟨x1, x2, x3⟩ := hx
      simp only [vmA, sN1, reduceIte, sN2, sN3, reduceCtorEq, sN4, sI1, sI2, sI3, sN5, sN6, e1, a1, a2, a3, a4, a5, e2, b1, b2, b3, b4, b5, e3, c1, c2, c3, c4, c5, e15, e14, e13, hA, xA, List.length_map, Option.bind_none]
      refine callD (f90 _ _ x1) ?_
      simp only [vmA, sN1, reduceIte, sN2, sN3, reduceCtorEq, sN4, sI1, sI2, sI3, sN5, sN6, e1, a1, a2, a3, a4, a5, e2, b1, b2, b3, b4, b5, e3, c1, c2, c3, c4, c5, e15, e14, e13, hA, xA, List.length_map, Option.bind_none]
      refine callD (f99 _ _ x2 x3) ?_
      rcases i with _ | i
      · simp only [vmA, sN1, reduceIte, sN2, sN3, reduceCtorEq, sN4, sI1, sI2, sI3, sN5, sN6, e1, a1, a2, a3, a4, a5, e2, b1, b2, b3, b4, b5, e3, c1, c2, c3, c4, c5, e15, e14, e13, hA, xA, List.length_map, Option.bind_none, txL, not_false_eq_true, take_map_len, enI]
        rw [wr (by omega)]
        refine ⟨1, ?_, by omega⟩
        have ht := take_next h.tx 0 (by omega)
        refine ⟨by omega, ?_, rfl⟩
        show _ = [AV.agg [_, _, .own 5 ((h.tx.take (0 + 1)).map xO)]]
        simp only [ht, List.take_zero, List.nil_append, List.map_cons, List.map_nil, xO]
      · have hlt' : (List.take (i + 1) h.tx).length = i + 1 := by simp; omega
        simp only [vmA, sN1, reduceIte, sN2, sN3, reduceCtorEq, sN4, sI1, sI2, sI3, sN5, sN6, e1, a1, a2, a3, a4, a5, e2, b1, b2, b3, b4, b5, e3, c1, c2, c3, c4, c5, e15, e14, e13, hA, xA, List.length_map, Option.bind_none, txL, not_false_eq_true, take_map_len, enI, hlt', List.length_append, List.length_cons, List.length_nil]
        rw [wr (by omega)]
        refine ⟨by omega, i + 1 + 1, ?_, by omega⟩
        have ht := take_next h.tx (i + 1) (by omega)
        refine ⟨by omega, ?_, rfl⟩
        show _ = [AV.agg [_, _, .own 5 ((h.tx.take (i + 1 + 1)).map xO)]]
        rw [List.take_of_length_le (by simp; omega)]
        simp only [ht, List.map_append, List.map_cons, List.map_nil, xO]
    · obtain rfl : i = h.tx.length := by omega
      cases hn : h.tx.length with
      | zero => omega
      | succ m =>
      rw [hn] at c5
      simp only [vmA, sN1, reduceIte, sN2, sN3, reduceCtorEq, sN4, sI1, sI2, sI3, sN5, sN6, e1, a1, a2, a3, a4, a5, e2, b1, b2, b3, b4, b5, e3, c1, c2, c3, c4, c5, Option.bind_none, txL, take_map_len, enI]
      refine callR (f111 _) ?_
      rintro _ _ ⟨rfl, rfl⟩
      simp only [vmA, sN1, reduceIte, sN2, sN3, reduceCtorEq, sN4, sI1, sI2, sI3, sN5, sN6, e1, a1, a2, a3, a4, a5, e2, b1, b2, b3, b4, b5, e3, c1, c2, c3, c4, c5, Option.bind_none, txL, take_map_len, enI]
      (refine hQ _ ?_; simp only [vmA, sN1, reduceIte, sN2, sN3, reduceCtorEq, sN4, sI1, sI2, sI3, sN5, sN6, Tryz.f59, retG, resL, St.closeVs, St.closeV, e1, e2, b1, b2, b3, b4, b5, e3, Option.bind_none])
      rw [List.take_of_length_le (by omega)]
      rfl
end
