/- WALK, or plain laws for it: theorem f<k> says what function k returns. Conditions: none but those ahead of each theorem. -/
import Derived.Test.YtklhdnjhgbglhaaGreatYH1
import Derived.Test.YtklhdnjhgbglhaaGreatYB5
import Derived.Test.YtklhdnjhgbglhaaGreatYH4
import Derived.Test.YtklhdnjhgbglhaaGreatYH6
set_option linter.unusedVariables false
set_option linter.unusedSimpArgs false
open Nat renaming reduceEqDiff → sN1, reduceAdd → sN2, reduceBEq → sN3, reduceLT → sN4, reduceMul → sN5, reduceLeDiff → sN6, reduceSub → sN7
open Int renaming reduceLE → sI1, reduceLT → sI2, reduceEq → sI3
section
open Go Go.Vm Go.Proofs
set_option maxRecDepth 100000
set_option maxHeartbeats 8000000
set_option maxHeartbeats 8000000
def smV (v : Ver) : Prop := v.row.length ≤ 1048576
end
section
open Go Go.Vm Go.Proofs
set_option maxRecDepth 100000
set_option maxHeartbeats 8000000
set_option maxHeartbeats 8000000
def smX (t : Tx) : Prop := t.rd.length ≤ 1048576 ∧ t.ws.length ≤ 1048576 ∧ ∀ w ∈ t.ws, w.row.length ≤ 1048576
def xO (t : Tx) : AV := .agg [.int .i64 t.st, .int .i64 t.bg, .int .i64 t.fn, .own 1 (t.rd.map iA), .own 3 (t.ws.map wO)]
theorem froize_xO (t : Tx) : froize (xO t) = xA t := by
  have h1 := map_froize_iA t.rd
  have h2 := map_froize_wO t.ws
  simp only [xO, xA, froize, froizeL, froizeL_eq, h1, h2]
theorem map_froize_xO (ts : List Tx) : (ts.map xO).map froize = ts.map xA := by simp [froize_xO]
end
section
open Go Go.Vm Go.Proofs
set_option maxRecDepth 100000
set_option maxHeartbeats 8000000
set_option maxHeartbeats 8000000
def hO2 (h : Hs) : AV := .agg [.own 4 (h.vs.map gO), .int .i64 h.ck, .own 5 (h.tx.map xO)]
def enI (σ : St) (e g sz : Nat) (L : List AV) : Prop := (σ.en e).live = true ∧ (σ.en e).gen = g ∧ (σ.en e).frz = false ∧ (σ.en e).sz = sz ∧ (σ.en e).elems = L
def txL (h : Hs) : Nat → AV
  | 0 => .fro none true []
  | i + 1 => .own 5 ((h.tx.take (i + 1)).map xO)
theorem f92 (h : Hs) (h1 : h.vs.length ≤ 1048576) (h2 : ∀ v ∈ h.vs, v.row.length ≤ 1048576) (h3 : h.tx.length ≤ 1048576) (h4 : ∀ t ∈ h.tx, smX t) (h5 : 0 < h.tx.length) : Fx 92 [hA h] (hO2 h) := by
  refine FxR.mono (R := fun r l => r = hO2 h ∧ l = .und) ?_ (fun _ _ h => h)
  refine fn_ofX ⟨true, [34], [(1, [], [1000, 0, 1, 3, 4])]⟩ Tryz.func92 (by kernel_rfl) rfl (by kernel_rfl) (by kernel_rfl) (Nat.le_of_ble_eq_true rfl) rfl fun Q hQ => ?_
  simp only [tr_seq, tr_block, tr_loop, tr_cond, tr_skip, tr_exit, tr_ret, tr_reg]
  rw [tr_tree 1 [0, 1, 3, 4] (.both 2 (.both 5 (.both 6 (.both 7 .leaf .leaf) .leaf) (.both 6 (.both 5 (.both 7 .leaf .leaf) .leaf) .leaf)) (.both 6 (.both 2 (.both 5 (.both 7 .leaf .leaf) .leaf) .leaf) .leaf)) (by kernel_rfl)]
  simp only [codeA_nil, codeA_look, codeA_hard, codeA_fin, ordC_leaf, ordC_one, ordC_both, pickL, List.getElem?_toArray, List.getElem?_cons_zero, List.getElem?_cons_succ]
  simp only [vmA, sN1, reduceIte, sN2, sN3, reduceCtorEq, sN4, sI1, sI2, sI3, sN5, sN6, hA, List.length_map]
  refine WT_cut (fun σ => (σ.sl 1 = .ptr 64 1 0 0 ∧ enI σ 64 1 3 [hA h]) ∧ (σ.sl 2 = .ptr 128 1 0 0 ∧ enI σ 128 1 3 [.agg [.fro none true [], .int .i64 0, .fro none true []]]) ∧ σ.sl 3 = .ptr 192 1 0 0 ∧ enI σ 192 1 3 [.agg [.own 4 (h.vs.map gO), .int .i64 h.ck, .fro none true []]]) ?_ ?_
  · simp only [vmA, sN1, reduceIte, sN2, sN3, reduceCtorEq, sN4, sI1, sI2, sI3, sN5, sN6, WT_both, hA, List.length_map, Option.bind_none]
    refine ⟨callD (f150 h.vs false h1 h2) ?_, callD (f150 h.vs false h1 h2) ?_⟩
    · simp only [vmA, sN1, reduceIte, sN2, sN3, reduceCtorEq, sN4, sI1, sI2, sI3, sN5, sN6, WT_both, hA, List.length_map, Option.bind_none, enI]
    · simp only [vmA, sN1, reduceIte, sN2, sN3, reduceCtorEq, sN4, sI1, sI2, sI3, sN5, sN6, WT_both, hA, List.length_map, Option.bind_none, enI]
  · rintro σ ⟨⟨e1, a1, a2, a3, a4, a5⟩, ⟨e2, b1, b2, b3, b4, b5⟩, e3, c1, c2, c3, c4, c5⟩
    show WT _ _ _ _ _ _
    simp only [vmA, sN1, reduceIte, sN2, sN3, reduceCtorEq, sN4, sI1, sI2, sI3, sN5, sN6, e1, a1, a2, a3, a4, a5, e2, b1, b2, b3, b4, b5, e3, c1, c2, c3, c4, c5, hA, List.length_map]
    refine WT_loop (fun (i : Nat) σ => i ≤ h.tx.length ∧ (σ.sl 1 = .ptr 64 1 0 0 ∧ enI σ 64 1 3 [hA h]) ∧ (σ.sl 2 = .ptr 128 1 0 0 ∧ enI σ 128 1 3 [.agg [.fro none true [], .int .i64 0, .fro none true []]]) ∧ (σ.sl 3 = .ptr 192 1 0 0 ∧ enI σ 192 1 3 [.agg [.own 4 (h.vs.map gO), .int .i64 h.ck, txL h i]]) ∧ σ.sl 4 = .int .i64 i) (fun i => h.tx.length - i) 0 ⟨by omega, by simp [vmI, enI, e1, a1, a2, a3, a4, a5, e2, b1, b2, b3, b4, b5, e3, c1, c2, c3, c4, c5, hA], by simp [vmI, enI, e1, a1, a2, a3, a4, a5, e2, b1, b2, b3, b4, b5, e3, c1, c2, c3, c4, c5], by simp [vmI, enI, e1, a1, a2, a3, a4, a5, e2, b1, b2, b3, b4, b5, e3, c1, c2, c3, c4, c5, txL], by simp [vmI]⟩ ?_
    clear e1 a1 a2 a3 a4 a5 e2 b1 b2 b3 b4 b5 e3 c1 c2 c3 c4 c5
    rintro i σ ⟨hi, ⟨e1, a1, a2, a3, a4, a5⟩, ⟨e2, b1, b2, b3, b4, b5⟩, ⟨e3, c1, c2, c3, c4, c5⟩, e4⟩
    simp only [vmA, sN1, reduceIte, sN2, sN3, reduceCtorEq, sN4, sI1, sI2, sI3, sN5, sN6, e1, a1, a2, a3, a4, a5, e2, b1, b2, b3, b4, b5, e3, c1, c2, c3, c4, c5, e4, hA, List.length_map]
    refine ⟨fun hlt => ⟨hlt, by omega, ?_⟩, fun hge => ?_⟩
    · have hx : smX h.tx[i]! := h4 _ (by rw [getElem!_pos h.tx i (by omega)]; exact List.getElem_mem _)
      obtain ⟨x1, x2, x3⟩ := hx
      simp only [vmA, sN1, reduceIte, sN2, sN3, reduceCtorEq, sN4, sI1, sI2, sI3, sN5, sN6, e1, a1, a2, a3, a4, a5, e2, b1, b2, b3, b4, b5, e3, c1, c2, c3, c4, c5, e4, hA, xA, List.length_map, Option.bind_none]
      refine ⟨fun z hz => (by obtain ⟨x, _, rfl⟩ := List.mem_map.1 hz; rfl), by omega, ?_⟩
      by_cases hr : h.tx[i]!.rd = []
      · have hrm : List.map iA h.tx[i]!.rd = [] := by rw [hr]; rfl
        simp only [vmA, sN1, reduceIte, sN2, sN3, reduceCtorEq, sN4, sI1, sI2, sI3, sN5, sN6, e1, a1, a2, a3, a4, a5, e2, b1, b2, b3, b4, b5, e3, c1, c2, c3, c4, c5, e4, hA, xA, List.length_map, Option.bind_none, txL, hrm, not_false_eq_true, take_map_len, enI]
        refine callD (f54 _ _ x2 x3) ?_
        rcases i with _ | i
        · simp only [vmA, sN1, reduceIte, sN2, sN3, reduceCtorEq, sN4, sI1, sI2, sI3, sN5, sN6, e1, a1, a2, a3, a4, a5, e2, b1, b2, b3, b4, b5, e3, c1, c2, c3, c4, c5, e4, hA, xA, List.length_map, Option.bind_none, txL, hrm, not_false_eq_true, take_map_len, enI]
          rw [wr (by omega)]
          refine ⟨1, ?_, by omega⟩
          have ht := take_next h.tx 0 (by omega)
          refine ⟨by omega, ?_, rfl⟩
          show _ = [AV.agg [_, _, .own 5 ((h.tx.take (0 + 1)).map xO)]]
          simp only [ht, List.take_zero, List.nil_append, List.map_cons, List.map_nil, xO, hrm]
        · have hlt' : (List.take (i + 1) h.tx).length = i + 1 := by simp; omega
          simp only [vmA, sN1, reduceIte, sN2, sN3, reduceCtorEq, sN4, sI1, sI2, sI3, sN5, sN6, e1, a1, a2, a3, a4, a5, e2, b1, b2, b3, b4, b5, e3, c1, c2, c3, c4, c5, e4, hA, xA, List.length_map, Option.bind_none, txL, hrm, not_false_eq_true, take_map_len, enI, hlt', List.length_append, List.length_cons, List.length_nil]
          rw [wr (by omega)]
          refine ⟨by omega, i + 1 + 1, ?_, by omega⟩
          have ht := take_next h.tx (i + 1) (by omega)
          refine ⟨by omega, ?_, rfl⟩
          show _ = [AV.agg [_, _, .own 5 ((h.tx.take (i + 1 + 1)).map xO)]]
          rw [List.take_of_length_le (by simp; omega)]
          simp only [ht, List.map_append, List.map_cons, List.map_nil, xO, hrm]
      · have hrm : ¬ List.map iA h.tx[i]!.rd = [] := by simpa using hr
        simp only [vmA, sN1, reduceIte, sN2, sN3, reduceCtorEq, sN4, sI1, sI2, sI3, sN5, sN6, e1, a1, a2, a3, a4, a5, e2, b1, b2, b3, b4, b5, e3, c1, c2, c3, c4, c5, e4, hA, xA, List.length_map, Option.bind_none, txL, hrm, not_false_eq_true, take_map_len, enI]
        refine callD (f54 _ _ x2 x3) ?_
        rcases i with _ | i
        · simp only [vmA, sN1, reduceIte, sN2, sN3, reduceCtorEq, sN4, sI1, sI2, sI3, sN5, sN6, e1, a1, a2, a3, a4, a5, e2, b1, b2, b3, b4, b5, e3, c1, c2, c3, c4, c5, e4, hA, xA, List.length_map, Option.bind_none, txL, hrm, not_false_eq_true, take_map_len, enI]
          rw [wr (by omega)]
          refine ⟨1, ?_, by omega⟩
          have ht := take_next h.tx 0 (by omega)
          refine ⟨by omega, ?_, rfl⟩
          show _ = [AV.agg [_, _, .own 5 ((h.tx.take (0 + 1)).map xO)]]
          simp only [ht, List.take_zero, List.nil_append, List.map_cons, List.map_nil, xO, hrm]
        · have hlt' : (List.take (i + 1) h.tx).length = i + 1 := by simp; omega
          simp only [vmA, sN1, reduceIte, sN2, sN3, reduceCtorEq, sN4, sI1, sI2, sI3, sN5, sN6, e1, a1, a2, a3, a4, a5, e2, b1, b2, b3, b4, b5, e3, c1, c2, c3, c4, c5, e4, hA, xA, List.length_map, Option.bind_none, txL, hrm, not_false_eq_true, take_map_len, enI, hlt', List.length_append, List.length_cons, List.length_nil]
          rw [wr (by omega)]
          refine ⟨by omega, i + 1 + 1, ?_, by omega⟩
          have ht := take_next h.tx (i + 1) (by omega)
          refine ⟨by omega, ?_, rfl⟩
          show _ = [AV.agg [_, _, .own 5 ((h.tx.take (i + 1 + 1)).map xO)]]
          rw [List.take_of_length_le (by simp; omega)]
          simp only [ht, List.map_append, List.map_cons, List.map_nil, xO, hrm]
    · obtain rfl : i = h.tx.length := by omega
      cases hn : h.tx.length with
      | zero => omega
      | succ m =>
      rw [hn] at c5
      simp only [vmA, sN1, reduceIte, sN2, sN3, reduceCtorEq, sN4, sI1, sI2, sI3, sN5, sN6, e1, a1, a2, a3, a4, a5, e2, b1, b2, b3, b4, b5, e3, c1, c2, c3, c4, c5, e4, hA, xA, List.length_map, Option.bind_none, txL, take_map_len, enI]
      (refine hQ _ ?_; simp only [vmA, sN1, reduceIte, sN2, sN3, reduceCtorEq, sN4, sI1, sI2, sI3, sN5, sN6, Tryz.f92, retG, resL, St.closeVs, St.closeV, e1, e2, b1, b2, b3, b4, b5, e3, Option.bind_none])
      rw [List.take_of_length_le (by omega)]
      rfl
end
