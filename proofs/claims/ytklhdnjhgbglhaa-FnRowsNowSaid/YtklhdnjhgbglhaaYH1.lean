/- WALK of functions of the seat, or plain laws for it: each theorem f<k> says what function k returns, for every world and all arguments that stand for the values named. Conditions: none but those ahead of each theorem. -/
import Derived.Test.YtklhdnjhgbglhaaYD2
open Go Go.Vm Go.Proofs
set_option maxRecDepth 100000
set_option maxHeartbeats 8000000
set_option linter.unusedSimpArgs false
set_option linter.unusedVariables false
/-- A list that grows by append: not begun yet; begun. -/
def grow (σ : St) (s e0 e1 sz n : Nat) (L : List AV) (g : Nat) : Bool → Prop
  | true => σ.sl s = .hd e1 g 0 n false ∧ (σ.en e1).live = true ∧ (σ.en e1).gen = g ∧ (σ.en e1).frz = false ∧ (σ.en e1).sz = sz ∧ (σ.en e1).elems = L
  | false => (n = 0 ∧ L = []) ∧ σ.sl s = .hd e0 1 0 0 true ∧ (σ.en e0).live = true ∧ (σ.en e0).gen = 1 ∧ (σ.en e0).frz = false ∧ (σ.en e0).sz = sz ∧ (σ.en e0).elems = []
theorem f91 (ws : List Wr) (c : Bool) (hl : ws.length ≤ 1048576) (hr : ∀ w ∈ ws, w.row.length ≤ 1048576) : Fx 91 [.fro none c (ws.map wA)] (.own 3 (ws.map wO)) := by
  refine fn_of true Try.func91 (by kernel_rfl) rfl (by kernel_rfl) (by kernel_rfl) (Nat.le_of_ble_eq_true rfl) rfl fun Q hQ => ?_
  simp only [vmA, Nat.reduceEqDiff, reduceIte, Nat.reduceAdd, Nat.reduceBEq, reduceCtorEq, Nat.reduceLT, Int.reduceLE, Int.reduceLT, Int.reduceEq, Nat.reduceMul, Nat.reduceLeDiff, List.length_map]
  refine WT_loop (fun (y : Nat × Nat × Bool) σ => y.1 ≤ ws.length ∧ σ.sl 0 = .fro none c (ws.map wA) ∧ σ.sl 4 = .int .i64 y.1 ∧ grow σ 3 384 1536 3 y.1 ((ws.take y.1).map wO) y.2.1 y.2.2) (fun y => ws.length - y.1) (0, 0, false) ⟨by simp, by simp [put_sl, put_en, put_none, init_sl, fresh_sl, fresh_en, ent_sl, ent_en, init_en], by simp [put_sl, put_en, put_none, init_sl, fresh_sl, fresh_en, ent_sl, ent_en, init_en], by simp [put_sl, put_en, put_none, init_sl, fresh_sl, fresh_en, ent_sl, ent_en, init_en, grow]⟩ ?_
  rintro ⟨i, g, b⟩ σ ⟨hi, e0, e4, ho⟩
  dsimp only at hi e4 ho
  have hlt' : (ws.take i).length = i := by simp; omega
  have hw : ∀ i, i < ws.length → ws[i]!.row.length ≤ 1048576 := fun i h => hr _ (by rw [getElem!_pos ws i h]; exact List.getElem_mem _)
  cases b
  all_goals simp only [grow] at ho
  · obtain ⟨⟨rfl, _⟩, o1, o2, o3, o4, o5, o6⟩ := ho
    simp only [vmA, Nat.reduceEqDiff, reduceIte, Nat.reduceAdd, Nat.reduceBEq, reduceCtorEq, Nat.reduceLT, Int.reduceLE, Int.reduceLT, Int.reduceEq, Nat.reduceMul, Nat.reduceLeDiff, e0, e4, o1, o2, o3, o4, o5, o6, List.length_map, wA, Option.bind_none]
    refine ⟨fun hlt => ⟨hlt, by omega, callD (f77 _ _ (hw 0 (by omega))) ?_⟩, fun hge => ?_⟩
    · simp only [vmA, Nat.reduceEqDiff, reduceIte, Nat.reduceAdd, Nat.reduceBEq, reduceCtorEq, Nat.reduceLT, Int.reduceLE, Int.reduceLT, Int.reduceEq, Nat.reduceMul, Nat.reduceLeDiff, e0, e4, o1, o2, o3, o4, o5, o6, List.length_map, wA, Option.bind_none]
      rw [wr (by omega)]
      refine ⟨(1, (σ.en 1536).gen + 1, true), ⟨by dsimp only; omega, rfl, ?_⟩, by dsimp only; omega⟩
      have ht := take_next ws 0 (by omega)
      simp only [vmA, Nat.reduceEqDiff, reduceIte, Nat.reduceAdd, Nat.reduceBEq, reduceCtorEq, Nat.reduceLT, Int.reduceLE, Int.reduceLT, Int.reduceEq, Nat.reduceMul, Nat.reduceLeDiff, grow, e0, e4, o1, o2, o3, o4, o5, o6, Nat.zero_add, ht, wO, Option.bind_none]
    · (refine hQ _ ?_; simp only [vmA, Nat.reduceEqDiff, reduceIte, Nat.reduceAdd, Nat.reduceBEq, reduceCtorEq, Nat.reduceLT, Int.reduceLE, Int.reduceLT, Int.reduceEq, Nat.reduceMul, Nat.reduceLeDiff, Try.f91, retG, resL, St.closeVs, St.closeV, e0, e4, o1, o2, o3, o4, o5, o6])
      rw [List.eq_nil_of_length_eq_zero (l := ws) (by omega)]
      rfl
  · obtain ⟨o1, o2, o3, o4, o5, o6⟩ := ho
    simp only [vmA, Nat.reduceEqDiff, reduceIte, Nat.reduceAdd, Nat.reduceBEq, reduceCtorEq, Nat.reduceLT, Int.reduceLE, Int.reduceLT, Int.reduceEq, Nat.reduceMul, Nat.reduceLeDiff, e0, e4, o1, o2, o3, o4, o5, o6, List.length_map, wA, Option.bind_none]
    refine ⟨fun hlt => ⟨hlt, by omega, callD (f77 _ _ (hw i (by omega))) ?_⟩, fun hge => ?_⟩
    · simp only [vmA, Nat.reduceEqDiff, reduceIte, Nat.reduceAdd, Nat.reduceBEq, reduceCtorEq, Nat.reduceLT, Int.reduceLE, Int.reduceLT, Int.reduceEq, Nat.reduceMul, Nat.reduceLeDiff, e0, e4, o1, o2, o3, o4, o5, o6, List.length_map, wA, Option.bind_none, hlt']
      rw [wr (by omega)]
      refine ⟨by omega, (i + 1, g + 1, true), ⟨by dsimp only; omega, rfl, ?_⟩, by dsimp only; omega⟩
      have ht := take_next ws i (by omega)
      simp only [vmA, Nat.reduceEqDiff, reduceIte, Nat.reduceAdd, Nat.reduceBEq, reduceCtorEq, Nat.reduceLT, Int.reduceLE, Int.reduceLT, Int.reduceEq, Nat.reduceMul, Nat.reduceLeDiff, grow, e0, e4, o1, o2, o3, o4, o5, o6, ht, wO, Option.bind_none, List.map_append]
    · (refine hQ _ ?_; simp only [vmA, Nat.reduceEqDiff, reduceIte, Nat.reduceAdd, Nat.reduceBEq, reduceCtorEq, Nat.reduceLT, Int.reduceLE, Int.reduceLT, Int.reduceEq, Nat.reduceMul, Nat.reduceLeDiff, Try.f91, retG, resL, St.closeVs, St.closeV, e0, e4, o1, o2, o3, o4, o5, o6, hlt'])
      rw [List.take_of_length_le (l := ws) (by omega), List.take_of_length_le (by simp; omega)]
theorem f90 (ws : List Ver) (c : Bool) (hl : ws.length ≤ 1048576) (hr : ∀ w ∈ ws, w.row.length ≤ 1048576) : Fx 90 [.fro none c (ws.map gA)] (.own 4 (ws.map gO)) := by
  refine fn_of true Try.func90 (by kernel_rfl) rfl (by kernel_rfl) (by kernel_rfl) (Nat.le_of_ble_eq_true rfl) rfl fun Q hQ => ?_
  simp only [vmA, Nat.reduceEqDiff, reduceIte, Nat.reduceAdd, Nat.reduceBEq, reduceCtorEq, Nat.reduceLT, Int.reduceLE, Int.reduceLT, Int.reduceEq, Nat.reduceMul, Nat.reduceLeDiff, List.length_map]
  refine WT_loop (fun (y : Nat × Nat × Bool) σ => y.1 ≤ ws.length ∧ σ.sl 0 = .fro none c (ws.map gA) ∧ σ.sl 4 = .int .i64 y.1 ∧ grow σ 3 384 1536 4 y.1 ((ws.take y.1).map gO) y.2.1 y.2.2) (fun y => ws.length - y.1) (0, 0, false) ⟨by simp, by simp [put_sl, put_en, put_none, init_sl, fresh_sl, fresh_en, ent_sl, ent_en, init_en], by simp [put_sl, put_en, put_none, init_sl, fresh_sl, fresh_en, ent_sl, ent_en, init_en], by simp [put_sl, put_en, put_none, init_sl, fresh_sl, fresh_en, ent_sl, ent_en, init_en, grow]⟩ ?_
  rintro ⟨i, g, b⟩ σ ⟨hi, e0, e4, ho⟩
  dsimp only at hi e4 ho
  have hlt' : (ws.take i).length = i := by simp; omega
  have hw : ∀ i, i < ws.length → ws[i]!.row.length ≤ 1048576 := fun i h => hr _ (by rw [getElem!_pos ws i h]; exact List.getElem_mem _)
  cases b
  all_goals simp only [grow] at ho
  · obtain ⟨⟨rfl, _⟩, o1, o2, o3, o4, o5, o6⟩ := ho
    simp only [vmA, Nat.reduceEqDiff, reduceIte, Nat.reduceAdd, Nat.reduceBEq, reduceCtorEq, Nat.reduceLT, Int.reduceLE, Int.reduceLT, Int.reduceEq, Nat.reduceMul, Nat.reduceLeDiff, e0, e4, o1, o2, o3, o4, o5, o6, List.length_map, gA, Option.bind_none]
    refine ⟨fun hlt => ⟨hlt, by omega, callD (f77 _ _ (hw 0 (by omega))) ?_⟩, fun hge => ?_⟩
    · simp only [vmA, Nat.reduceEqDiff, reduceIte, Nat.reduceAdd, Nat.reduceBEq, reduceCtorEq, Nat.reduceLT, Int.reduceLE, Int.reduceLT, Int.reduceEq, Nat.reduceMul, Nat.reduceLeDiff, e0, e4, o1, o2, o3, o4, o5, o6, List.length_map, gA, Option.bind_none]
      rw [wr (by omega)]
      refine ⟨(1, (σ.en 1536).gen + 1, true), ⟨by dsimp only; omega, rfl, ?_⟩, by dsimp only; omega⟩
      have ht := take_next ws 0 (by omega)
      simp only [vmA, Nat.reduceEqDiff, reduceIte, Nat.reduceAdd, Nat.reduceBEq, reduceCtorEq, Nat.reduceLT, Int.reduceLE, Int.reduceLT, Int.reduceEq, Nat.reduceMul, Nat.reduceLeDiff, grow, e0, e4, o1, o2, o3, o4, o5, o6, Nat.zero_add, ht, gO, Option.bind_none]
    · (refine hQ _ ?_; simp only [vmA, Nat.reduceEqDiff, reduceIte, Nat.reduceAdd, Nat.reduceBEq, reduceCtorEq, Nat.reduceLT, Int.reduceLE, Int.reduceLT, Int.reduceEq, Nat.reduceMul, Nat.reduceLeDiff, Try.f90, retG, resL, St.closeVs, St.closeV, e0, e4, o1, o2, o3, o4, o5, o6])
      rw [List.eq_nil_of_length_eq_zero (l := ws) (by omega)]
      rfl
  · obtain ⟨o1, o2, o3, o4, o5, o6⟩ := ho
    simp only [vmA, Nat.reduceEqDiff, reduceIte, Nat.reduceAdd, Nat.reduceBEq, reduceCtorEq, Nat.reduceLT, Int.reduceLE, Int.reduceLT, Int.reduceEq, Nat.reduceMul, Nat.reduceLeDiff, e0, e4, o1, o2, o3, o4, o5, o6, List.length_map, gA, Option.bind_none]
    refine ⟨fun hlt => ⟨hlt, by omega, callD (f77 _ _ (hw i (by omega))) ?_⟩, fun hge => ?_⟩
    · simp only [vmA, Nat.reduceEqDiff, reduceIte, Nat.reduceAdd, Nat.reduceBEq, reduceCtorEq, Nat.reduceLT, Int.reduceLE, Int.reduceLT, Int.reduceEq, Nat.reduceMul, Nat.reduceLeDiff, e0, e4, o1, o2, o3, o4, o5, o6, List.length_map, gA, Option.bind_none, hlt']
      rw [wr (by omega)]
      refine ⟨by omega, (i + 1, g + 1, true), ⟨by dsimp only; omega, rfl, ?_⟩, by dsimp only; omega⟩
      have ht := take_next ws i (by omega)
      simp only [vmA, Nat.reduceEqDiff, reduceIte, Nat.reduceAdd, Nat.reduceBEq, reduceCtorEq, Nat.reduceLT, Int.reduceLE, Int.reduceLT, Int.reduceEq, Nat.reduceMul, Nat.reduceLeDiff, grow, e0, e4, o1, o2, o3, o4, o5, o6, ht, gO, Option.bind_none, List.map_append]
    · (refine hQ _ ?_; simp only [vmA, Nat.reduceEqDiff, reduceIte, Nat.reduceAdd, Nat.reduceBEq, reduceCtorEq, Nat.reduceLT, Int.reduceLE, Int.reduceLT, Int.reduceEq, Nat.reduceMul, Nat.reduceLeDiff, Try.f90, retG, resL, St.closeVs, St.closeV, e0, e4, o1, o2, o3, o4, o5, o6, hlt'])
      rw [List.take_of_length_le (l := ws) (by omega), List.take_of_length_le (by simp; omega)]
