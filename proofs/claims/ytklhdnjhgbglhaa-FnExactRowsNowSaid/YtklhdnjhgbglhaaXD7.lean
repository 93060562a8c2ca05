/- WALK of functions of the seat, or plain laws for it: each theorem f<k> says what function k returns, for every world and all arguments that stand for the values named. Conditions: none but those ahead of each theorem. -/
import Derived.Test.YtklhdnjhgbglhaaXD6
open Go Go.Vm Go.Proofs
set_option maxRecDepth 100000
set_option maxHeartbeats 16000000
set_option linter.unusedSimpArgs false
set_option linter.unusedVariables false
theorem froize_hO (h : Hs) : froize (hO h) = hA h := by
  have h1 := map_froize_gO h.vs
  have h2 := map_froize_xO h.tx
  simp only [hO, hA, froize, froizeL, froizeL_eq, h1, h2]
theorem hasFroL_gO (ws : List Ver) : hasFro.hasFroL (ws.map gO) = false := by
  induction ws with
  | nil => rfl
  | cons w ws ih => simp only [List.map_cons, hasFro.hasFroL, ih, Bool.or_false, gO, hasFro, hasFroL_vA]
theorem hasFroL_iA (xs : List Int) : hasFro.hasFroL (xs.map iA) = false := by
  induction xs with
  | nil => rfl
  | cons x xs ih => simp only [List.map_cons, hasFro.hasFroL, ih, Bool.or_false, hasFro]
theorem hasFroL_wO (ws : List Wr) : hasFro.hasFroL (ws.map wO) = false := by
  induction ws with
  | nil => rfl
  | cons w ws ih => simp only [List.map_cons, hasFro.hasFroL, ih, Bool.or_false, wO, hasFro, hasFroL_vA]
theorem hasFroL_xO (ws : List Tx) : hasFro.hasFroL (ws.map xO) = false := by
  induction ws with
  | nil => rfl
  | cons w ws ih => simp only [List.map_cons, hasFro.hasFroL, ih, Bool.or_false, xO, hasFro, hasFroL_iA, hasFroL_wO]
theorem nowS_len (h : Hs) : (nowS h).length ≤ 5 := by
  unfold nowS
  split
  · exact rowsN_len _ _ _
  · simp
theorem nowS_row {h : Hs} (hs : smH h) : ∀ w ∈ nowS h, w.length ≤ 1048576 := by
  intro w hw
  unfold nowS at hw
  split at hw
  · obtain ⟨v, hv, rfl⟩ := rowsN_mem hw
    exact hs.row v hv
  · simp at hw
theorem mkTake (rs : List (List Val)) (k : Int) : List.take rs.length ((mkRs rs k).map rO) = (mkRs rs k).map rO := List.take_of_length_le (by simp [mkRs_length])
theorem f4 (h : Hs) (hi : inH h) : Fx 4 [hA h] (.bool true) := by
  refine fn_ofX ⟨false, [32, 200034], [(10, [], [0, 1, 2, 3, 4])]⟩ Try.func4 (by kernel_rfl) rfl (by kernel_rfl) (by kernel_rfl) (Nat.le_of_ble_eq_true rfl) rfl fun Q hQ => ?_
  simp only [tr_seq, tr_block, tr_loop, tr_cond, tr_skip, tr_exit, tr_ret, tr_reg]
  rw [tr_any 10 [(0, [], 0), (0, [], 1), (1, [0, 1], 2), (1, [0], 3), (0, [], 4), (2, [4], 0)] (by kernel_rfl)]
  simp only [codeA_nil, codeA_look, codeA_hard, codeA_fin, pickL, List.getElem?_toArray, List.getElem?_cons_zero, List.getElem?_cons_succ]
  simp only [vmA, Nat.reduceEqDiff, reduceIte, Nat.reduceAdd, Nat.reduceBEq, reduceCtorEq, Nat.reduceLT, Int.reduceLE, Int.reduceLT, Int.reduceEq, Nat.reduceMul, Nat.reduceLeDiff, hA]
  refine callR (f12 h hi) ?_
  rintro _ _ ⟨⟨n, rfl, hn0, hn1, hn⟩, rfl⟩
  simp only [vmA, Nat.reduceEqDiff, reduceIte, Nat.reduceAdd, Nat.reduceBEq, reduceCtorEq, Nat.reduceLT, Int.reduceLE, Int.reduceLT, Int.reduceEq, Nat.reduceMul, Nat.reduceLeDiff, hA]
  refine ⟨fun g => ?_, fun g => ?_⟩
  · (refine hQ _ ?_; simp only [vmA, Nat.reduceEqDiff, reduceIte, Nat.reduceAdd, Nat.reduceBEq, reduceCtorEq, Nat.reduceLT, Int.reduceLE, Int.reduceLT, Int.reduceEq, Nat.reduceMul, Nat.reduceLeDiff, Try.f4, retG, resL, St.closeVs, St.closeV])
  have hs : smH h := hn (by omega)
  have ok := okH_of hi hs
  refine callD (f13 h hs) ?_
  simp only [vmA, Nat.reduceEqDiff, reduceIte, Nat.reduceAdd, Nat.reduceBEq, reduceCtorEq, Nat.reduceLT, Int.reduceLE, Int.reduceLT, Int.reduceEq, Nat.reduceMul, Nat.reduceLeDiff, hA, hO, behind_nf, hasFro, hasFroL_gO, hasFroL_xO, map_froize_gO, map_froize_xO]
  refine callD (f8 h ok) ?_
  simp only [vmA, Nat.reduceEqDiff, reduceIte, Nat.reduceAdd, Nat.reduceBEq, reduceCtorEq, Nat.reduceLT, Int.reduceLE, Int.reduceLT, Int.reduceEq, Nat.reduceMul, Nat.reduceLeDiff, hA, hO, behind_nf, hasFro, hasFroL_gO, hasFroL_xO, map_froize_gO, map_froize_xO, hasFroL_rO, map_froize_rO]
  refine callD (f13 h hs) ?_
  simp only [vmA, Nat.reduceEqDiff, reduceIte, Nat.reduceAdd, Nat.reduceBEq, reduceCtorEq, Nat.reduceLT, Int.reduceLE, Int.reduceLT, Int.reduceEq, Nat.reduceMul, Nat.reduceLeDiff, hA, hO, behind_nf, hasFro, hasFroL_gO, hasFroL_xO, map_froize_gO, map_froize_xO, hasFroL_rO, map_froize_rO]
  refine callD (f6 h ok) ?_
  simp only [vmA, Nat.reduceEqDiff, reduceIte, Nat.reduceAdd, Nat.reduceBEq, reduceCtorEq, Nat.reduceLT, Int.reduceLE, Int.reduceLT, Int.reduceEq, Nat.reduceMul, Nat.reduceLeDiff, hA, hO, behind_nf, hasFro, hasFroL_gO, hasFroL_xO, map_froize_gO, map_froize_xO, hasFroL_rO, map_froize_rO]
  have hrl := nowS_len h
  have hrr := nowS_row hs
  have hpr := pR_le (nowS h) hrr _ (Nat.le_refl _)
  refine callD (f14 (nowS h) false false (by omega) hrr) ?_
  simp only [vmA, Nat.reduceEqDiff, reduceIte, Nat.reduceAdd, Nat.reduceBEq, reduceCtorEq, Nat.reduceLT, Int.reduceLE, Int.reduceLT, Int.reduceEq, Nat.reduceMul, Nat.reduceLeDiff, hA, hO, behind_nf, hasFro, hasFroL_gO, hasFroL_xO, map_froize_gO, map_froize_xO, hasFroL_rO, map_froize_rO]
  refine callD (f13 h hs) ?_
  simp only [vmA, Nat.reduceEqDiff, reduceIte, Nat.reduceAdd, Nat.reduceBEq, reduceCtorEq, Nat.reduceLT, Int.reduceLE, Int.reduceLT, Int.reduceEq, Nat.reduceMul, Nat.reduceLeDiff, hA, hO, behind_nf, hasFro, hasFroL_gO, hasFroL_xO, map_froize_gO, map_froize_xO, hasFroL_rO, map_froize_rO]
  refine callD (f15 h hs) ?_
  simp only [vmA, Nat.reduceEqDiff, reduceIte, Nat.reduceAdd, Nat.reduceBEq, reduceCtorEq, Nat.reduceLT, Int.reduceLE, Int.reduceLT, Int.reduceEq, Nat.reduceMul, Nat.reduceLeDiff, hA, hO, behind_nf, hasFro, hasFroL_gO, hasFroL_xO, map_froize_gO, map_froize_xO, hasFroL_rO, map_froize_rO]
  refine t_con (by rw [cstD_some]; rfl) (by kernel_rfl) (by simp) ?_
  simp only [List.map_cons, List.map_nil, get_tmp]
  simp only [vmA, Nat.reduceEqDiff, reduceIte, Nat.reduceAdd, Nat.reduceBEq, reduceCtorEq, Nat.reduceLT, Int.reduceLE, Int.reduceLT, Int.reduceEq, Nat.reduceMul, Nat.reduceLeDiff, hA, hO, conT_agg, behind_nf, hasFro, hasFroL_gO, hasFroL_xO]
  refine callR (f16 h hs) ?_
  rintro _ _ ⟨⟨k', rfl, hk⟩, rfl⟩
  refine ⟨rfl, ?_⟩
  simp only [takeRes, takeV, takeLeaf]
  have hkd : decide (k' < 0) = false := decide_eq_false (by omega)
  simp only [vmA, Nat.reduceEqDiff, reduceIte, Nat.reduceAdd, Nat.reduceBEq, reduceCtorEq, Nat.reduceLT, Int.reduceLE, Int.reduceLT, Int.reduceEq, Nat.reduceMul, Nat.reduceLeDiff, hA, hO, hkd, behind_nf, hasFro, hasFroL_gO, hasFroL_xO, map_froize_rO]
  refine callD (f14 (nowS h) false false (by omega) hrr) ?_
  simp only [vmA, Nat.reduceEqDiff, reduceIte, Nat.reduceAdd, Nat.reduceBEq, reduceCtorEq, Nat.reduceLT, Int.reduceLE, Int.reduceLT, Int.reduceEq, Nat.reduceMul, Nat.reduceLeDiff, hA, hO, hkd, behind_nf, hasFro, hasFroL_gO, hasFroL_xO, map_froize_rO, map_froize_gO, map_froize_xO, hasFroL_rO, List.length_map, mkRs_length]
  have hpd : decide ((1 : Int) + (pR (nowS h) (nowS h).length : Int) < 0) = false := decide_eq_false (by omega)
  refine callR (f17 (nowS h) 1 (by omega) hrr (by omega)) ?_
  rintro _ _ ⟨rfl, rfl⟩
  simp only [vmA, Nat.reduceEqDiff, reduceIte, Nat.reduceAdd, Nat.reduceBEq, reduceCtorEq, Nat.reduceLT, Int.reduceLE, Int.reduceLT, Int.reduceEq, Nat.reduceMul, Nat.reduceLeDiff, hA, hO, hkd, behind_nf, hasFro, hasFroL_gO, hasFroL_xO, map_froize_rO, map_froize_gO, map_froize_xO, hasFroL_rO, List.length_map, mkRs_length, mkTake, hpd]
  refine callD (f18 (nowS h) 1 false (by omega) hrr (by omega)) ?_
  simp only [vmA, Nat.reduceEqDiff, reduceIte, Nat.reduceAdd, Nat.reduceBEq, reduceCtorEq, Nat.reduceLT, Int.reduceLE, Int.reduceLT, Int.reduceEq, Nat.reduceMul, Nat.reduceLeDiff, hA, hO, hkd, behind_nf, hasFro, hasFroL_gO, hasFroL_xO, map_froize_rO, map_froize_gO, map_froize_xO, hasFroL_rO, List.length_map, mkRs_length, mkTake, hpd]
  refine callD (f13 h hs) ?_
  simp only [vmA, Nat.reduceEqDiff, reduceIte, Nat.reduceAdd, Nat.reduceBEq, reduceCtorEq, Nat.reduceLT, Int.reduceLE, Int.reduceLT, Int.reduceEq, Nat.reduceMul, Nat.reduceLeDiff, hA, hO, hkd, behind_nf, hasFro, hasFroL_gO, hasFroL_xO, map_froize_rO, map_froize_gO, map_froize_xO, hasFroL_rO, List.length_map, mkRs_length, mkTake, hpd]
  refine callD (f6 h ok) ?_
  simp only [vmA, Nat.reduceEqDiff, reduceIte, Nat.reduceAdd, Nat.reduceBEq, reduceCtorEq, Nat.reduceLT, Int.reduceLE, Int.reduceLT, Int.reduceEq, Nat.reduceMul, Nat.reduceLeDiff, hA, hO, hkd, behind_nf, hasFro, hasFroL_gO, hasFroL_xO, map_froize_rO, map_froize_gO, map_froize_xO, hasFroL_rO, List.length_map, mkRs_length, mkTake, hpd]
  refine callD (f14 (nowS h) false false (by omega) hrr) ?_
  simp only [vmA, Nat.reduceEqDiff, reduceIte, Nat.reduceAdd, Nat.reduceBEq, reduceCtorEq, Nat.reduceLT, Int.reduceLE, Int.reduceLT, Int.reduceEq, Nat.reduceMul, Nat.reduceLeDiff, hA, hO, hkd, behind_nf, hasFro, hasFroL_gO, hasFroL_xO, map_froize_rO, map_froize_gO, map_froize_xO, hasFroL_rO, List.length_map, mkRs_length, mkTake, hpd]
  refine callD (f18 (nowS h) 1 false (by omega) hrr (by omega)) ?_
  simp only [vmA, Nat.reduceEqDiff, reduceIte, Nat.reduceAdd, Nat.reduceBEq, reduceCtorEq, Nat.reduceLT, Int.reduceLE, Int.reduceLT, Int.reduceEq, Nat.reduceMul, Nat.reduceLeDiff, hA, hO, hkd, behind_nf, hasFro, hasFroL_gO, hasFroL_xO, map_froize_rO, map_froize_gO, map_froize_xO, hasFroL_rO, List.length_map, mkRs_length, mkTake, hpd]
  (refine hQ _ ?_; simp only [vmA, Nat.reduceEqDiff, reduceIte, Nat.reduceAdd, Nat.reduceBEq, reduceCtorEq, Nat.reduceLT, Int.reduceLE, Int.reduceLT, Int.reduceEq, Nat.reduceMul, Nat.reduceLeDiff, Try.f4, retG, resL, St.closeVs, St.closeV])
