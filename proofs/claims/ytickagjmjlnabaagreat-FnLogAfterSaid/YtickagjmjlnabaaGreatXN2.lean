/- WALK of functions of the seat, or plain laws for it: each theorem f<k> says what function k returns, for every world and all arguments that stand for the values named. Conditions: none but those ahead of each theorem. -/
import Derived.Test.YtickagjmjlnabaaGreatXN1
open Go Go.Vm Go.Proofs
set_option maxRecDepth 100000
set_option maxHeartbeats 8000000
set_option linter.unusedSimpArgs false
set_option linter.unusedVariables false
/-- A version of a row. -/
structure Ver where
  key : Int
  born : Int
  died : Int
  row : List Val
instance : Inhabited Ver := ⟨⟨0, 0, 0, []⟩⟩
def gA (v : Ver) : AV := .agg [.int .i64 v.key, .int .i64 v.born, .int .i64 v.died, .fro none false (v.row.map vA)]
def gO (v : Ver) : AV := .agg [.int .i64 v.key, .int .i64 v.born, .int .i64 v.died, .own 3 (v.row.map vA)]
theorem froize_gA (v : Ver) : froize (gA v) = gA v := rfl
theorem froize_gO (v : Ver) : froize (gO v) = gA v := by
  have := map_froize_vA v.row
  simp only [gO, gA, froize, froizeL, froizeL_eq, this]
theorem map_froize_gO (vs : List Ver) : (vs.map gO).map froize = vs.map gA := by simp [froize_gO]
theorem map_froize_gA (vs : List Ver) : (vs.map gA).map froize = vs.map gA := by simp [froize_gA]
theorem f72 (xs : List Ver) : FxR 72 [.own 4 (xs.map gO)] fun r l => r = .own 4 (xs.map gO) ∧ l = .tup [] := by
  refine fn_ofW false (k := 0) Tryz.func72 (by kernel_rfl) rfl (by kernel_rfl) (by kernel_rfl) (Nat.le_of_ble_eq_true rfl) rfl ⟨_, _, .inl rfl⟩ rfl fun Q hQ => ?_
  simp only [vmA, Nat.reduceEqDiff, reduceIte, Nat.reduceAdd, Nat.reduceBEq, reduceCtorEq, Nat.reduceLT, Int.reduceLE, Int.reduceLT, Int.reduceEq, Nat.reduceMul, Nat.reduceLeDiff, List.length_map]
  (refine hQ _ ?_; simp only [vmA, Nat.reduceEqDiff, reduceIte, Nat.reduceAdd, Nat.reduceBEq, reduceCtorEq, Nat.reduceLT, Int.reduceLE, Int.reduceLT, Int.reduceEq, Nat.reduceMul, Nat.reduceLeDiff, Tryz.f72, retG, resL, St.closeVs, St.closeV, leftV, ghostW, List.length_map, take_map_len, Nat.sub_zero, Int.toNat_zero])
theorem f54 (ws : List Ver) (c : Bool) (hl : ws.length ≤ 1048576) (hr : ∀ w ∈ ws, w.row.length ≤ 1048576) : Fx 54 [.fro none c (ws.map gA)] (.own 4 (ws.map gO)) := by
  refine fn_of true Tryz.func54 (by kernel_rfl) rfl (by kernel_rfl) (by kernel_rfl) (Nat.le_of_ble_eq_true rfl) rfl fun Q hQ => ?_
  simp only [vmA, Nat.reduceEqDiff, reduceIte, Nat.reduceAdd, Nat.reduceBEq, reduceCtorEq, Nat.reduceLT, Int.reduceLE, Int.reduceLT, Int.reduceEq, Nat.reduceMul, Nat.reduceLeDiff, List.length_map]
  refine WT_loopN (fun (y : Nat × Nat) σ => y.1 ≤ ws.length ∧ σ.sl 6 = .fro none c (ws.map gA) ∧ σ.sl 7 = .int .i64 ws.length ∧ σ.sl 8 = .int .i64 y.1 ∧ σ.sl 3 = .hd 192 y.2 0 y.1 false ∧ (σ.en 192).live = true ∧ (σ.en 192).gen = y.2 ∧ (σ.en 192).frz = false ∧ (σ.en 192).sz = 4 ∧ (σ.en 192).elems = (ws.take y.1).map gO) (fun y => ws.length - y.1) (0, 1) 3 4 (by simp [put_sl, put_en, put_none, init_sl, fresh_sl, fresh_en, ent_sl, ent_en, init_en]) (by simp [put_sl, put_en, put_none, init_sl, fresh_sl, fresh_en, ent_sl, ent_en, init_en, takeRes, takeV, takeLeaf, eid]) ?_
  rintro ⟨i, g⟩ σ ⟨hi, e6, e7, e8, o1, o2, o3, o4, o5, o6⟩
  dsimp only at hi e8 o1 o3 o6
  have hlt' : (ws.take i).length = i := by simp; omega
  simp only [vmA, Nat.reduceEqDiff, reduceIte, Nat.reduceAdd, Nat.reduceBEq, reduceCtorEq, Nat.reduceLT, Int.reduceLE, Int.reduceLT, Int.reduceEq, Nat.reduceMul, Nat.reduceLeDiff, e6, e7, e8, o1, o2, o3, o4, o5, o6, List.length_map, gA, Option.bind_none]
  refine ⟨fun hlt => ⟨hlt, by omega, callD (f51 _ _ (hr _ (by rw [getElem!_pos ws i (by omega)]; exact List.getElem_mem _))) ?_⟩, fun hge => ?_⟩
  · simp only [vmA, Nat.reduceEqDiff, reduceIte, Nat.reduceAdd, Nat.reduceBEq, reduceCtorEq, Nat.reduceLT, Int.reduceLE, Int.reduceLT, Int.reduceEq, Nat.reduceMul, Nat.reduceLeDiff, e6, e7, e8, o1, o2, o3, o4, o5, o6, List.length_map, gA, hlt', Option.bind_none]
    rw [wr (by omega)]
    refine ⟨by omega, (i + 1, g + 1), ⟨by dsimp only; omega, rfl, ?_⟩, by dsimp only; omega⟩
    rw [take_next ws i (by omega)]
    simp only [vmA, Nat.reduceEqDiff, reduceIte, Nat.reduceAdd, Nat.reduceBEq, reduceCtorEq, Nat.reduceLT, Int.reduceLE, Int.reduceLT, Int.reduceEq, Nat.reduceMul, Nat.reduceLeDiff, e6, e7, e8, o1, o2, o3, o4, o5, o6, gO, List.map_append, hlt', Option.bind_none]
  · obtain rfl : i = ws.length := by omega
    rw [List.take_length]
    refine ⟨by omega, callR (f72 ws) ?_⟩
    rintro _ _ ⟨rfl, rfl⟩
    simp only [vmA, Nat.reduceEqDiff, reduceIte, Nat.reduceAdd, Nat.reduceBEq, reduceCtorEq, Nat.reduceLT, Int.reduceLE, Int.reduceLT, Int.reduceEq, Nat.reduceMul, Nat.reduceLeDiff, List.length_map]
    (refine hQ _ ?_; simp only [vmA, Nat.reduceEqDiff, reduceIte, Nat.reduceAdd, Nat.reduceBEq, reduceCtorEq, Nat.reduceLT, Int.reduceLE, Int.reduceLT, Int.reduceEq, Nat.reduceMul, Nat.reduceLeDiff, Tryz.f54, retG, resL, St.closeVs, St.closeV, List.length_map, take_map_len])
theorem f69 (v w : Ver) : Fx 69 [gA v, gA w] (.int .i64 (or0L [iCmp v.key w.key, iCmp v.born w.born])) := by
  refine fn_ofX ⟨false, [], [(1, [], [0, 1, 2, 3, 5, 6, 7, 8, 4, 9, 10, 11, 12])]⟩ Tryz.func69 (by kernel_rfl) rfl (by kernel_rfl) (by kernel_rfl) (Nat.le_of_ble_eq_true rfl) rfl fun Q hQ => ?_
  simp only [tr_seq, tr_block, tr_loop, tr_cond, tr_skip, tr_exit, tr_ret, tr_reg]
  rw [tr_any 1 [(0, [], 0), (0, [], 1), (0, [], 2), (0, [], 3), (0, [], 5), (0, [], 6), (0, [], 7), (0, [], 8), (1, [0, 1, 2, 3, 5, 6, 7, 8], 4), (1, [5, 6, 7, 8], 9), (1, [], 10), (1, [], 11), (0, [], 12), (2, [12], 0)] (by kernel_rfl)]
  simp only [codeA_nil, codeA_look, codeA_hard, codeA_fin, pickL, List.getElem?_toArray, List.getElem?_cons_zero, List.getElem?_cons_succ]
  simp only [vmA, Nat.reduceEqDiff, reduceIte, Nat.reduceAdd, Nat.reduceBEq, reduceCtorEq, Nat.reduceLT, Int.reduceLE, Int.reduceLT, Int.reduceEq, Nat.reduceMul, Nat.reduceLeDiff, gA]
  refine callD (f71 v.key w.key) ?_
  simp only [vmA, Nat.reduceEqDiff, reduceIte, Nat.reduceAdd, Nat.reduceBEq, reduceCtorEq, Nat.reduceLT, Int.reduceLE, Int.reduceLT, Int.reduceEq, Nat.reduceMul, Nat.reduceLeDiff, gA]
  refine callD (f71 v.born w.born) ?_
  simp only [vmA, Nat.reduceEqDiff, reduceIte, Nat.reduceAdd, Nat.reduceBEq, reduceCtorEq, Nat.reduceLT, Int.reduceLE, Int.reduceLT, Int.reduceEq, Nat.reduceMul, Nat.reduceLeDiff, gA]
  refine callD (f70 [iCmp v.key w.key, iCmp v.born w.born] true (by simp)) ?_
  simp only [vmA, Nat.reduceEqDiff, reduceIte, Nat.reduceAdd, Nat.reduceBEq, reduceCtorEq, Nat.reduceLT, Int.reduceLE, Int.reduceLT, Int.reduceEq, Nat.reduceMul, Nat.reduceLeDiff, gA]
  (refine hQ _ ?_; simp only [vmA, Nat.reduceEqDiff, reduceIte, Nat.reduceAdd, Nat.reduceBEq, reduceCtorEq, Nat.reduceLT, Int.reduceLE, Int.reduceLT, Int.reduceEq, Nat.reduceMul, Nat.reduceLeDiff, Tryz.f69, retG, resL, St.closeVs, St.closeV])
