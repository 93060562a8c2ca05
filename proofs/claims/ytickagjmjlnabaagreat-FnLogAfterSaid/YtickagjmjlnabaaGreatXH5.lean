/- WALK of functions of the seat, or plain laws for it: each theorem f<k> says what function k returns, for every world and all arguments that stand for the values named. Conditions: none but those ahead of each theorem. -/
import Derived.Test.YtickagjmjlnabaaGreatXA3
import Derived.Test.YtickagjmjlnabaaGreatXF11
open Go Go.Vm Go.Proofs
set_option maxRecDepth 100000
set_option maxHeartbeats 8000000
set_option linter.unusedSimpArgs false
set_option linter.unusedVariables false
/-- The same, owned through and through. -/
def wO (w : Wr) : AV := .agg [.int .i64 w.key, .own 3 (w.row.map vA), .bool w.gone]
def eOO (e : En) : AV := .agg [.int .i64 e.time, .own 3 (e.ws.map wO)]
theorem froize_wO (w : Wr) : froize (wO w) = wA w := by
  have := map_froize_vA w.row
  simp only [wO, wA, froize, froizeL, froizeL_eq, this]
theorem map_froize_wO (ws : List Wr) : (ws.map wO).map froize = ws.map wA := by simp [froize_wO]
theorem froize_eOO (e : En) : froize (eOO e) = eA e := by
  have := map_froize_wO e.ws
  simp only [eOO, eA, froize, froizeL, froizeL_eq, this]
theorem map_froize_eOO (es : List En) : (es.map eOO).map froize = es.map eA := by simp [froize_eOO]
/-- A list that grows by append: not begun yet; begun. -/
def grow (σ : St) (s e0 e1 sz n : Nat) (L : List AV) (g : Nat) : Bool → Prop
  | true => σ.sl s = .hd e1 g 0 n false ∧ (σ.en e1).live = true ∧ (σ.en e1).gen = g ∧ (σ.en e1).frz = false ∧ (σ.en e1).sz = sz ∧ (σ.en e1).elems = L
  | false => (n = 0 ∧ L = []) ∧ σ.sl s = .hd e0 1 0 0 true ∧ (σ.en e0).live = true ∧ (σ.en e0).gen = 1 ∧ (σ.en e0).frz = false ∧ (σ.en e0).sz = sz ∧ (σ.en e0).elems = []
theorem f42 (ws : List Wr) (c : Bool) (hl : ws.length ≤ 1048576) (hr : ∀ w ∈ ws, w.row.length ≤ 1048576) : Fx 42 [.fro none c (ws.map wA)] (.own 3 (ws.map wO)) := by
  refine fn_of true Tryz.func42 (by kernel_rfl) rfl (by kernel_rfl) (by kernel_rfl) (Nat.le_of_ble_eq_true rfl) rfl fun Q hQ => ?_
  simp only [vmA, Nat.reduceEqDiff, reduceIte, Nat.reduceAdd, Nat.reduceBEq, reduceCtorEq, Nat.reduceLT, Int.reduceLE, Int.reduceLT, Int.reduceEq, Nat.reduceMul, Nat.reduceLeDiff, List.length_map]
  refine WT_loop (fun (y : Nat × Nat × Bool) σ => y.1 ≤ ws.length ∧ σ.sl 0 = .fro none c (ws.map wA) ∧ σ.sl 4 = .int .i64 y.1 ∧ grow σ 3 384 1536 3 y.1 ((ws.take y.1).map wO) y.2.1 y.2.2) (fun y => ws.length - y.1) (0, 0, false) ⟨by simp, by simp [put_sl, put_en, put_none, init_sl, fresh_sl, fresh_en, ent_sl, ent_en, init_en], by simp [put_sl, put_en, put_none, init_sl, fresh_sl, fresh_en, ent_sl, ent_en, init_en], by simp [put_sl, put_en, put_none, init_sl, fresh_sl, fresh_en, ent_sl, ent_en, init_en, grow]⟩ ?_
  rintro ⟨i, g, b⟩ σ ⟨hi, e0, e4, ho⟩
  dsimp only at hi e4 ho
  have hlt' : (ws.take i).length = i := by simp; omega
  have hw : ∀ i, i < ws.length → ws[i]!.row.length ≤ 1048576 := fun i h => hr _ (by rw [getElem!_pos ws i h]; exact List.getElem_mem _)
  cases b
  all_goals simp only [grow] at ho
  · obtain ⟨⟨rfl, _⟩, o1, o2, o3, o4, o5, o6⟩ := ho
    simp only [vmA, Nat.reduceEqDiff, reduceIte, Nat.reduceAdd, Nat.reduceBEq, reduceCtorEq, Nat.reduceLT, Int.reduceLE, Int.reduceLT, Int.reduceEq, Nat.reduceMul, Nat.reduceLeDiff, e0, e4, o1, o2, o3, o4, o5, o6, List.length_map, wA, Option.bind_none]
    refine ⟨fun hlt => ⟨hlt, by omega, callD (f59 _ _ (hw 0 (by omega))) ?_⟩, fun hge => ?_⟩
    · simp only [vmA, Nat.reduceEqDiff, reduceIte, Nat.reduceAdd, Nat.reduceBEq, reduceCtorEq, Nat.reduceLT, Int.reduceLE, Int.reduceLT, Int.reduceEq, Nat.reduceMul, Nat.reduceLeDiff, e0, e4, o1, o2, o3, o4, o5, o6, List.length_map, wA, Option.bind_none]
      rw [wr (by omega)]
      refine ⟨(1, (σ.en 1536).gen + 1, true), ⟨by dsimp only; omega, rfl, ?_⟩, by dsimp only; omega⟩
      have ht := take_next ws 0 (by omega)
      simp only [vmA, Nat.reduceEqDiff, reduceIte, Nat.reduceAdd, Nat.reduceBEq, reduceCtorEq, Nat.reduceLT, Int.reduceLE, Int.reduceLT, Int.reduceEq, Nat.reduceMul, Nat.reduceLeDiff, grow, e0, e4, o1, o2, o3, o4, o5, o6, Nat.zero_add, ht, wO, Option.bind_none]
    · (refine hQ _ ?_; simp only [vmA, Nat.reduceEqDiff, reduceIte, Nat.reduceAdd, Nat.reduceBEq, reduceCtorEq, Nat.reduceLT, Int.reduceLE, Int.reduceLT, Int.reduceEq, Nat.reduceMul, Nat.reduceLeDiff, Tryz.f42, retG, resL, St.closeVs, St.closeV, e0, e4, o1, o2, o3, o4, o5, o6])
      rw [List.eq_nil_of_length_eq_zero (l := ws) (by omega)]
      rfl
  · obtain ⟨o1, o2, o3, o4, o5, o6⟩ := ho
    simp only [vmA, Nat.reduceEqDiff, reduceIte, Nat.reduceAdd, Nat.reduceBEq, reduceCtorEq, Nat.reduceLT, Int.reduceLE, Int.reduceLT, Int.reduceEq, Nat.reduceMul, Nat.reduceLeDiff, e0, e4, o1, o2, o3, o4, o5, o6, List.length_map, wA, Option.bind_none]
    refine ⟨fun hlt => ⟨hlt, by omega, callD (f59 _ _ (hw i (by omega))) ?_⟩, fun hge => ?_⟩
    · simp only [vmA, Nat.reduceEqDiff, reduceIte, Nat.reduceAdd, Nat.reduceBEq, reduceCtorEq, Nat.reduceLT, Int.reduceLE, Int.reduceLT, Int.reduceEq, Nat.reduceMul, Nat.reduceLeDiff, e0, e4, o1, o2, o3, o4, o5, o6, List.length_map, wA, Option.bind_none, hlt']
      rw [wr (by omega)]
      refine ⟨by omega, (i + 1, g + 1, true), ⟨by dsimp only; omega, rfl, ?_⟩, by dsimp only; omega⟩
      have ht := take_next ws i (by omega)
      simp only [vmA, Nat.reduceEqDiff, reduceIte, Nat.reduceAdd, Nat.reduceBEq, reduceCtorEq, Nat.reduceLT, Int.reduceLE, Int.reduceLT, Int.reduceEq, Nat.reduceMul, Nat.reduceLeDiff, grow, e0, e4, o1, o2, o3, o4, o5, o6, ht, wO, Option.bind_none, List.map_append]
    · (refine hQ _ ?_; simp only [vmA, Nat.reduceEqDiff, reduceIte, Nat.reduceAdd, Nat.reduceBEq, reduceCtorEq, Nat.reduceLT, Int.reduceLE, Int.reduceLT, Int.reduceEq, Nat.reduceMul, Nat.reduceLeDiff, Tryz.f42, retG, resL, St.closeVs, St.closeV, e0, e4, o1, o2, o3, o4, o5, o6, hlt'])
      rw [List.take_of_length_le (l := ws) (by omega), List.take_of_length_le (by simp; omega)]
theorem f20 (ws : List En) (c : Bool) (hl : ws.length ≤ 1048576) (hs : ∀ e ∈ ws, smE e) : Fx 20 [.fro none c (ws.map eA)] (.own 2 (ws.map eOO)) := by
  refine FxR.mono (R := fun r l => r = .own 2 (ws.map eOO) ∧ l = .und) ?_ (fun _ _ h => h)
  refine fn_ofX true Tryz.func20 (by kernel_rfl) rfl (by kernel_rfl) (by kernel_rfl) (Nat.le_of_ble_eq_true rfl) rfl fun Q hQ => ?_
  simp only [tr_seq, tr_block, tr_loop, tr_cond, tr_skip, tr_exit, tr_ret, tr_reg]
  rw [tr_cut 11 (by kernel_rfl)]
  simp only [vmA, Nat.reduceEqDiff, reduceIte, Nat.reduceAdd, Nat.reduceBEq, reduceCtorEq, Nat.reduceLT, Int.reduceLE, Int.reduceLT, Int.reduceEq, Nat.reduceMul, Nat.reduceLeDiff, List.length_map]
  refine WT_loop (fun (y : Nat × Nat × Bool) σ => y.1 ≤ ws.length ∧ σ.sl 0 = .fro none c (ws.map eA) ∧ σ.sl 4 = .int .i64 y.1 ∧ grow σ 3 320 1664 2 y.1 ((ws.take y.1).map eOO) y.2.1 y.2.2) (fun y => ws.length - y.1) (0, 0, false) ⟨by simp, by simp [put_sl, put_en, put_none, init_sl, fresh_sl, fresh_en, ent_sl, ent_en, init_en], by simp [put_sl, put_en, put_none, init_sl, fresh_sl, fresh_en, ent_sl, ent_en, init_en], by simp [put_sl, put_en, put_none, init_sl, fresh_sl, fresh_en, ent_sl, ent_en, init_en, grow]⟩ ?_
  rintro ⟨i, g, b⟩ σ ⟨hi, e0, e4, ho⟩
  dsimp only at hi e4 ho
  have hlt' : (ws.take i).length = i := by simp; omega
  have hw : ∀ i, i < ws.length → smE ws[i]! := fun i h => hs _ (by rw [getElem!_pos ws i h]; exact List.getElem_mem _)
  cases b
  all_goals simp only [grow] at ho
  · obtain ⟨⟨rfl, _⟩, o1, o2, o3, o4, o5, o6⟩ := ho
    simp only [vmA, Nat.reduceEqDiff, reduceIte, Nat.reduceAdd, Nat.reduceBEq, reduceCtorEq, Nat.reduceLT, Int.reduceLE, Int.reduceLT, Int.reduceEq, Nat.reduceMul, Nat.reduceLeDiff, e0, e4, o1, o2, o3, o4, o5, o6, List.length_map, eA, Option.bind_none]
    refine ⟨fun hlt => ⟨hlt, by omega, hlt, by omega, callD (f42 _ _ (hw 0 (by omega)).1 (hw 0 (by omega)).2) ?_⟩, fun hge => ?_⟩
    · simp only [vmA, Nat.reduceEqDiff, reduceIte, Nat.reduceAdd, Nat.reduceBEq, reduceCtorEq, Nat.reduceLT, Int.reduceLE, Int.reduceLT, Int.reduceEq, Nat.reduceMul, Nat.reduceLeDiff, e0, e4, o1, o2, o3, o4, o5, o6, List.length_map, eA, Option.bind_none]
      rw [wr (by omega)]
      refine ⟨(1, (σ.en 1664).gen + 1, true), ⟨by dsimp only; omega, rfl, ?_⟩, by dsimp only; omega⟩
      have ht := take_next ws 0 (by omega)
      simp only [vmA, Nat.reduceEqDiff, reduceIte, Nat.reduceAdd, Nat.reduceBEq, reduceCtorEq, Nat.reduceLT, Int.reduceLE, Int.reduceLT, Int.reduceEq, Nat.reduceMul, Nat.reduceLeDiff, grow, e0, e4, o1, o2, o3, o4, o5, o6, Nat.zero_add, ht, eOO, Option.bind_none]
    · (refine hQ _ ?_; simp only [vmA, Nat.reduceEqDiff, reduceIte, Nat.reduceAdd, Nat.reduceBEq, reduceCtorEq, Nat.reduceLT, Int.reduceLE, Int.reduceLT, Int.reduceEq, Nat.reduceMul, Nat.reduceLeDiff, Tryz.f20, retG, resL, St.closeVs, St.closeV, e0, e4, o1, o2, o3, o4, o5, o6])
      rw [List.eq_nil_of_length_eq_zero (l := ws) (by omega)]
      rfl
  · obtain ⟨o1, o2, o3, o4, o5, o6⟩ := ho
    simp only [vmA, Nat.reduceEqDiff, reduceIte, Nat.reduceAdd, Nat.reduceBEq, reduceCtorEq, Nat.reduceLT, Int.reduceLE, Int.reduceLT, Int.reduceEq, Nat.reduceMul, Nat.reduceLeDiff, e0, e4, o1, o2, o3, o4, o5, o6, List.length_map, eA, Option.bind_none]
    refine ⟨fun hlt => ⟨hlt, by omega, hlt, by omega, callD (f42 _ _ (hw i (by omega)).1 (hw i (by omega)).2) ?_⟩, fun hge => ?_⟩
    · simp only [vmA, Nat.reduceEqDiff, reduceIte, Nat.reduceAdd, Nat.reduceBEq, reduceCtorEq, Nat.reduceLT, Int.reduceLE, Int.reduceLT, Int.reduceEq, Nat.reduceMul, Nat.reduceLeDiff, e0, e4, o1, o2, o3, o4, o5, o6, List.length_map, eA, Option.bind_none, hlt']
      rw [wr (by omega)]
      refine ⟨by omega, (i + 1, g + 1, true), ⟨by dsimp only; omega, rfl, ?_⟩, by dsimp only; omega⟩
      have ht := take_next ws i (by omega)
      simp only [vmA, Nat.reduceEqDiff, reduceIte, Nat.reduceAdd, Nat.reduceBEq, reduceCtorEq, Nat.reduceLT, Int.reduceLE, Int.reduceLT, Int.reduceEq, Nat.reduceMul, Nat.reduceLeDiff, grow, e0, e4, o1, o2, o3, o4, o5, o6, ht, eOO, Option.bind_none, List.map_append]
    · (refine hQ _ ?_; simp only [vmA, Nat.reduceEqDiff, reduceIte, Nat.reduceAdd, Nat.reduceBEq, reduceCtorEq, Nat.reduceLT, Int.reduceLE, Int.reduceLT, Int.reduceEq, Nat.reduceMul, Nat.reduceLeDiff, Tryz.f20, retG, resL, St.closeVs, St.closeV, e0, e4, o1, o2, o3, o4, o5, o6, hlt'])
      rw [List.take_of_length_le (l := ws) (by omega), List.take_of_length_le (by simp; omega)]
theorem f56 (xs : List Wr) : FxR 56 [.own 3 (xs.map wO)] fun r l => r = .own 3 (xs.map wO) ∧ l = .tup [] := by
  refine fn_ofW false (k := 0) Tryz.func56 (by kernel_rfl) rfl (by kernel_rfl) (by kernel_rfl) (Nat.le_of_ble_eq_true rfl) rfl ⟨_, _, .inl rfl⟩ rfl fun Q hQ => ?_
  simp only [vmA, Nat.reduceEqDiff, reduceIte, Nat.reduceAdd, Nat.reduceBEq, reduceCtorEq, Nat.reduceLT, Int.reduceLE, Int.reduceLT, Int.reduceEq, Nat.reduceMul, Nat.reduceLeDiff, List.length_map]
  (refine hQ _ ?_; simp only [vmA, Nat.reduceEqDiff, reduceIte, Nat.reduceAdd, Nat.reduceBEq, reduceCtorEq, Nat.reduceLT, Int.reduceLE, Int.reduceLT, Int.reduceEq, Nat.reduceMul, Nat.reduceLeDiff, Tryz.f56, retG, resL, St.closeVs, St.closeV, leftV, ghostW, List.length_map, take_map_len, Nat.sub_zero, Int.toNat_zero])
theorem f38 (xs : List En) : FxR 38 [.own 2 (xs.map eOO)] fun r l => r = .own 2 (xs.map eOO) ∧ l = .tup [] := by
  refine fn_ofW false (k := 0) Tryz.func38 (by kernel_rfl) rfl (by kernel_rfl) (by kernel_rfl) (Nat.le_of_ble_eq_true rfl) rfl ⟨_, _, .inl rfl⟩ rfl fun Q hQ => ?_
  simp only [vmA, Nat.reduceEqDiff, reduceIte, Nat.reduceAdd, Nat.reduceBEq, reduceCtorEq, Nat.reduceLT, Int.reduceLE, Int.reduceLT, Int.reduceEq, Nat.reduceMul, Nat.reduceLeDiff, List.length_map]
  (refine hQ _ ?_; simp only [vmA, Nat.reduceEqDiff, reduceIte, Nat.reduceAdd, Nat.reduceBEq, reduceCtorEq, Nat.reduceLT, Int.reduceLE, Int.reduceLT, Int.reduceEq, Nat.reduceMul, Nat.reduceLeDiff, Tryz.f38, retG, resL, St.closeVs, St.closeV, leftV, ghostW, List.length_map, take_map_len, Nat.sub_zero, Int.toNat_zero])
theorem f37 (ws : List Wr) (c : Bool) (hl : ws.length ≤ 1048576) (hr : ∀ w ∈ ws, w.row.length ≤ 1048576) : Fx 37 [.fro none c (ws.map wA)] (.own 3 (ws.map wO)) := by
  refine fn_of true Tryz.func37 (by kernel_rfl) rfl (by kernel_rfl) (by kernel_rfl) (Nat.le_of_ble_eq_true rfl) rfl fun Q hQ => ?_
  simp only [vmA, Nat.reduceEqDiff, reduceIte, Nat.reduceAdd, Nat.reduceBEq, reduceCtorEq, Nat.reduceLT, Int.reduceLE, Int.reduceLT, Int.reduceEq, Nat.reduceMul, Nat.reduceLeDiff, List.length_map]
  refine WT_loopN (fun (y : Nat × Nat) σ => y.1 ≤ ws.length ∧ σ.sl 6 = .fro none c (ws.map wA) ∧ σ.sl 7 = .int .i64 ws.length ∧ σ.sl 8 = .int .i64 y.1 ∧ σ.sl 3 = .hd 192 y.2 0 y.1 false ∧ (σ.en 192).live = true ∧ (σ.en 192).gen = y.2 ∧ (σ.en 192).frz = false ∧ (σ.en 192).sz = 3 ∧ (σ.en 192).elems = (ws.take y.1).map wO) (fun y => ws.length - y.1) (0, 1) 3 3 (by simp [put_sl, put_en, put_none, init_sl, fresh_sl, fresh_en, ent_sl, ent_en, init_en]) (by simp [put_sl, put_en, put_none, init_sl, fresh_sl, fresh_en, ent_sl, ent_en, init_en, takeRes, takeV, takeLeaf, eid]) ?_
  rintro ⟨i, g⟩ σ ⟨hi, e6, e7, e8, o1, o2, o3, o4, o5, o6⟩
  dsimp only at hi e8 o1 o3 o6
  have hlt' : (ws.take i).length = i := by simp; omega
  simp only [vmA, Nat.reduceEqDiff, reduceIte, Nat.reduceAdd, Nat.reduceBEq, reduceCtorEq, Nat.reduceLT, Int.reduceLE, Int.reduceLT, Int.reduceEq, Nat.reduceMul, Nat.reduceLeDiff, e6, e7, e8, o1, o2, o3, o4, o5, o6, List.length_map, wA, Option.bind_none]
  refine ⟨fun hlt => ⟨hlt, by omega, callD (f51 _ _ (hr _ (by rw [getElem!_pos ws i (by omega)]; exact List.getElem_mem _))) ?_⟩, fun hge => ?_⟩
  · simp only [vmA, Nat.reduceEqDiff, reduceIte, Nat.reduceAdd, Nat.reduceBEq, reduceCtorEq, Nat.reduceLT, Int.reduceLE, Int.reduceLT, Int.reduceEq, Nat.reduceMul, Nat.reduceLeDiff, e6, e7, e8, o1, o2, o3, o4, o5, o6, List.length_map, wA, hlt', Option.bind_none]
    rw [wr (by omega)]
    refine ⟨by omega, (i + 1, g + 1), ⟨by dsimp only; omega, rfl, ?_⟩, by dsimp only; omega⟩
    rw [take_next ws i (by omega)]
    simp only [vmA, Nat.reduceEqDiff, reduceIte, Nat.reduceAdd, Nat.reduceBEq, reduceCtorEq, Nat.reduceLT, Int.reduceLE, Int.reduceLT, Int.reduceEq, Nat.reduceMul, Nat.reduceLeDiff, e6, e7, e8, o1, o2, o3, o4, o5, o6, wO, List.map_append, hlt', Option.bind_none]
  · obtain rfl : i = ws.length := by omega
    rw [List.take_length]
    refine ⟨by omega, callR (f56 ws) ?_⟩
    rintro _ _ ⟨rfl, rfl⟩
    simp only [vmA, Nat.reduceEqDiff, reduceIte, Nat.reduceAdd, Nat.reduceBEq, reduceCtorEq, Nat.reduceLT, Int.reduceLE, Int.reduceLT, Int.reduceEq, Nat.reduceMul, Nat.reduceLeDiff, List.length_map]
    (refine hQ _ ?_; simp only [vmA, Nat.reduceEqDiff, reduceIte, Nat.reduceAdd, Nat.reduceBEq, reduceCtorEq, Nat.reduceLT, Int.reduceLE, Int.reduceLT, Int.reduceEq, Nat.reduceMul, Nat.reduceLeDiff, Tryz.f37, retG, resL, St.closeVs, St.closeV, List.length_map, take_map_len])
theorem f18 (ws : List En) (c : Bool) (hl : ws.length ≤ 1048576) (hs : ∀ e ∈ ws, smE e) : Fx 18 [.fro none c (ws.map eA)] (.own 2 (ws.map eOO)) := by
  refine FxR.mono (R := fun r l => r = .own 2 (ws.map eOO) ∧ l = .und) ?_ (fun _ _ h => h)
  refine fn_ofX true Tryz.func18 (by kernel_rfl) rfl (by kernel_rfl) (by kernel_rfl) (Nat.le_of_ble_eq_true rfl) rfl fun Q hQ => ?_
  simp only [tr_seq, tr_block, tr_loop, tr_cond, tr_skip, tr_exit, tr_ret, tr_reg]
  rw [tr_cut 5 (by kernel_rfl)]
  simp only [vmA, Nat.reduceEqDiff, reduceIte, Nat.reduceAdd, Nat.reduceBEq, reduceCtorEq, Nat.reduceLT, Int.reduceLE, Int.reduceLT, Int.reduceEq, Nat.reduceMul, Nat.reduceLeDiff, List.length_map]
  refine WT_loopN (fun (y : Nat × Nat) σ => y.1 ≤ ws.length ∧ σ.sl 6 = .fro none c (ws.map eA) ∧ σ.sl 7 = .int .i64 ws.length ∧ σ.sl 8 = .int .i64 y.1 ∧ σ.sl 3 = .hd 192 y.2 0 y.1 false ∧ (σ.en 192).live = true ∧ (σ.en 192).gen = y.2 ∧ (σ.en 192).frz = false ∧ (σ.en 192).sz = 2 ∧ (σ.en 192).elems = (ws.take y.1).map eOO) (fun y => ws.length - y.1) (0, 1) 3 2 (by simp [put_sl, put_en, put_none, init_sl, fresh_sl, fresh_en, ent_sl, ent_en, init_en]) (by simp [put_sl, put_en, put_none, init_sl, fresh_sl, fresh_en, ent_sl, ent_en, init_en, takeRes, takeV, takeLeaf, eid]) ?_
  rintro ⟨i, g⟩ σ ⟨hi, e6, e7, e8, o1, o2, o3, o4, o5, o6⟩
  dsimp only at hi e8 o1 o3 o6
  have hlt' : (ws.take i).length = i := by simp; omega
  simp only [vmA, Nat.reduceEqDiff, reduceIte, Nat.reduceAdd, Nat.reduceBEq, reduceCtorEq, Nat.reduceLT, Int.reduceLE, Int.reduceLT, Int.reduceEq, Nat.reduceMul, Nat.reduceLeDiff, e6, e7, e8, o1, o2, o3, o4, o5, o6, List.length_map, eA, Option.bind_none]
  refine ⟨fun hlt => ⟨hlt, by omega, callD (f37 _ _ (hs _ (by rw [getElem!_pos ws i (by omega)]; exact List.getElem_mem _)).1 (hs _ (by rw [getElem!_pos ws i (by omega)]; exact List.getElem_mem _)).2) ?_⟩, fun hge => ?_⟩
  · simp only [vmA, Nat.reduceEqDiff, reduceIte, Nat.reduceAdd, Nat.reduceBEq, reduceCtorEq, Nat.reduceLT, Int.reduceLE, Int.reduceLT, Int.reduceEq, Nat.reduceMul, Nat.reduceLeDiff, e6, e7, e8, o1, o2, o3, o4, o5, o6, List.length_map, eA, hlt', Option.bind_none]
    rw [wr (by omega)]
    refine ⟨by omega, (i + 1, g + 1), ⟨by dsimp only; omega, rfl, ?_⟩, by dsimp only; omega⟩
    rw [take_next ws i (by omega)]
    simp only [vmA, Nat.reduceEqDiff, reduceIte, Nat.reduceAdd, Nat.reduceBEq, reduceCtorEq, Nat.reduceLT, Int.reduceLE, Int.reduceLT, Int.reduceEq, Nat.reduceMul, Nat.reduceLeDiff, e6, e7, e8, o1, o2, o3, o4, o5, o6, eOO, List.map_append, hlt', Option.bind_none]
  · obtain rfl : i = ws.length := by omega
    rw [List.take_length]
    refine ⟨by omega, callR (f38 ws) ?_⟩
    rintro _ _ ⟨rfl, rfl⟩
    simp only [vmA, Nat.reduceEqDiff, reduceIte, Nat.reduceAdd, Nat.reduceBEq, reduceCtorEq, Nat.reduceLT, Int.reduceLE, Int.reduceLT, Int.reduceEq, Nat.reduceMul, Nat.reduceLeDiff, List.length_map]
    (refine hQ _ ?_; simp only [vmA, Nat.reduceEqDiff, reduceIte, Nat.reduceAdd, Nat.reduceBEq, reduceCtorEq, Nat.reduceLT, Int.reduceLE, Int.reduceLT, Int.reduceEq, Nat.reduceMul, Nat.reduceLeDiff, Tryz.f18, retG, resL, St.closeVs, St.closeV, List.length_map, take_map_len])
