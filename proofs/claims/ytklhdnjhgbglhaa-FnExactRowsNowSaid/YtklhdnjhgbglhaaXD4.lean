/- WALK of functions of the seat, or plain laws for it: each theorem f<k> says what function k returns, for every world and all arguments that stand for the values named. Conditions: none but those ahead of each theorem. -/
import Derived.Test.YtklhdnjhgbglhaaXD3
open Go Go.Vm Go.Proofs
set_option maxRecDepth 100000
set_option maxHeartbeats 8000000
set_option linter.unusedSimpArgs false
set_option linter.unusedVariables false
theorem set_gO (ws : List Ver) (i : Nat) (a b d : Int) (r : List Val) : (ws.map gO).set i (.agg [.int .i64 a, .int .i64 b, .int .i64 d, .own 3 (r.map vA)]) = (ws.set i ⟨a, b, d, r⟩).map gO := by rw [List.map_set]; rfl
theorem mod_gO (ws : List Ver) (i : Nat) (r : List Val) (h : i < ws.length) : (ws.map gO).modify i (fun x => reEl x ((leaves x).set 3 (.own 3 (r.map vA)))) = (ws.set i ⟨ws[i]!.key, ws[i]!.born, ws[i]!.died, r⟩).map gO := by
  have hl : i < (ws.map gO).length := by simpa using h
  rw [List.map_set, List.modify_eq_take_cons_drop hl]
  conv => rhs; rw [List.set_eq_take_append_cons_drop, if_pos hl]
  rw [List.getElem_map, getElem!_pos ws i h]
  rfl
theorem f38 (ws : List Ver) (k : Int) (hk : 0 ≤ k) (hr : ∀ w ∈ ws, smV w) (hl : k + 3145731 * ws.length ≤ 4611686018427387904) : FxR 38 [.own 4 (ws.map gO), .int .i64 k] fun r l => ∃ (k' : Int) (ys : List Ver), r = .int .i64 k' ∧ k ≤ k' ∧ k' ≤ k + 3145731 * ws.length ∧ l = .own 4 (ys.map gO) ∧ ys.length = ws.length := by
  refine fn_ofW false (k := 0) Try.func38 (by kernel_rfl) rfl (by kernel_rfl) (by kernel_rfl) (Nat.le_of_ble_eq_true rfl) rfl ⟨_, _, .inl rfl⟩ rfl fun Q hQ => ?_
  simp only [vmA, Nat.reduceEqDiff, reduceIte, Nat.reduceAdd, Nat.reduceBEq, reduceCtorEq, Nat.reduceLT, Int.reduceLE, Int.reduceLT, Int.reduceEq, Nat.reduceMul, Nat.reduceLeDiff, List.length_map]
  refine WT_loop (fun (p : Nat × List Ver × Int) σ => (p.1 ≤ ws.length ∧ p.2.1.length = ws.length ∧ (∀ w ∈ p.2.1, smV w) ∧ k ≤ p.2.2 ∧ p.2.2 ≤ k + 3145731 * p.1) ∧ σ.sl 0 = .hd 0 1 0 ws.length false ∧ (σ.en 0).live = true ∧ (σ.en 0).gen = 1 ∧ (σ.en 0).frz = false ∧ (σ.en 0).sz = 4 ∧ (σ.en 0).elems = p.2.1.map gO ∧ σ.sl 1 = .int .i64 p.2.2 ∧ σ.sl 5 = .int .i64 p.1) (fun p => ws.length - p.1) (0, ws, k) ⟨⟨by simp, rfl, hr, by simp, by simp⟩, by simp [put_sl, put_en, put_none, init_sl, fresh_sl, fresh_en, ent_sl, ent_en, init_en], by simp [put_sl, put_en, put_none, init_sl, fresh_sl, fresh_en, ent_sl, ent_en, init_en], by simp [put_sl, put_en, put_none, init_sl, fresh_sl, fresh_en, ent_sl, ent_en, init_en], by simp [put_sl, put_en, put_none, init_sl, fresh_sl, fresh_en, ent_sl, ent_en, init_en], by simp [put_sl, put_en, put_none, init_sl, fresh_sl, fresh_en, ent_sl, ent_en, init_en], by simp [put_sl, put_en, put_none, init_sl, fresh_sl, fresh_en, ent_sl, ent_en, init_en], by simp [put_sl, put_en, put_none, init_sl, fresh_sl, fresh_en, ent_sl, ent_en, init_en], by simp [put_sl, put_en, put_none, init_sl, fresh_sl, fresh_en, ent_sl, ent_en, init_en]⟩ ?_
  rintro ⟨i, ys, m⟩ σ ⟨⟨hi, hyl, hyr, hm0, hm1⟩, e0, l1, l2, l3, l4, l5, e1, e5⟩
  dsimp only at hi hyl hyr hm0 hm1 l5 e1 e5
  simp only [vmA, Nat.reduceEqDiff, reduceIte, Nat.reduceAdd, Nat.reduceBEq, reduceCtorEq, Nat.reduceLT, Int.reduceLE, Int.reduceLT, Int.reduceEq, Nat.reduceMul, Nat.reduceLeDiff, e0, l1, l2, l3, l4, l5, e1, e5, List.length_map, hyl, gO, set_gO, List.length_set]
  refine ⟨fun hlt => ?_, fun hge => ?_⟩
  · refine ⟨hlt, by omega, hlt, by omega, hlt, by omega, hlt, by omega, ?_⟩
    simp (disch := first | omega | (simp; omega)) only [get_set, List.set_set, wr]
    have hyi : ys[i]!.row.length ≤ 1048576 := by rw [getElem!_pos ys i (by omega)]; exact hyr _ (List.getElem_mem _)
    refine ⟨by omega, ?_⟩
    refine callR (f40 ys[i]!.row (m + 1 + 1 + 1) (by omega) (by omega)) ?_
    rintro _ _ ⟨k', r, rfl, hk0, hk1, rfl, hrl⟩
    have hm := mod_gO (ys.set i ⟨m, m + 1, m + 1 + 1, ys[i]!.row⟩) i r (by simp; omega)
    rw [get_set ys i _ (by omega), List.set_set] at hm
    simp only [vmA, Nat.reduceEqDiff, reduceIte, Nat.reduceAdd, Nat.reduceBEq, reduceCtorEq, Nat.reduceLT, Int.reduceLE, Int.reduceLT, Int.reduceEq, Nat.reduceMul, Nat.reduceLeDiff, e0, l1, l2, l3, l4, l5, e1, e5, List.length_map, hyl, hm, gO, set_gO, List.length_set]
    simp (disch := first | omega | (simp; omega)) only [get_set, List.set_set, wr, hm]
    refine ⟨(i + 1, ys.set i ⟨m, m + 1, m + 1 + 1, r⟩, k'), ⟨⟨by dsimp only; omega, by dsimp only; simp [hyl], fun w hw => ?_, by dsimp only; omega, by dsimp only; omega⟩, rfl, leafJ (by dsimp only), rfl⟩, by dsimp only; omega⟩
    dsimp only at hw
    rcases List.mem_or_eq_of_mem_set hw with h | h
    · exact hyr _ h
    · rw [h]; show List.length _ ≤ _; dsimp only; omega
  · (refine hQ _ ?_; simp only [vmA, Nat.reduceEqDiff, reduceIte, Nat.reduceAdd, Nat.reduceBEq, reduceCtorEq, Nat.reduceLT, Int.reduceLE, Int.reduceLT, Int.reduceEq, Nat.reduceMul, Nat.reduceLeDiff, Try.f38, retG, resL, St.closeVs, St.closeV, leftV, ghostW, e0, l1, l2, l3, l4, l5, e1, e5, List.length_map, hyl])
    refine ⟨m, ys, rfl, hm0, by omega, ?_, hyl⟩
    rw [List.take_of_length_le (by simp; omega)]
