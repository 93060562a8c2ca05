/- WALK of functions of the seat, or plain laws for it: each theorem f<k> says what function k returns, for every world and all arguments that stand for the values named. Conditions: none but those ahead of each theorem. -/
import Derived.Test.YtklhdnjhgbglhaaGreatVD2
import Derived.Test.YtklhdnjhgbglhaaGreatVB5
import Derived.Test.YtklhdnjhgbglhaaGreatVB6
section
open Go Go.Vm Go.Proofs
set_option maxRecDepth 100000
set_option maxHeartbeats 8000000
set_option linter.unusedSimpArgs false
set_option linter.unusedVariables false
set_option maxHeartbeats 8000000
set_option linter.unusedSimpArgs false
set_option linter.unusedVariables false
/-- A list that grows by append: not begun yet; begun. -/
def grow (σ : St) (s e0 e1 sz n : Nat) (L : List AV) (g : Nat) : Bool → Prop
  | true => σ.sl s = .hd e1 g 0 n false ∧ (σ.en e1).live = true ∧ (σ.en e1).gen = g ∧ (σ.en e1).frz = false ∧ (σ.en e1).sz = sz ∧ (σ.en e1).elems = L
  | false => (n = 0 ∧ L = []) ∧ σ.sl s = .hd e0 1 0 0 true ∧ (σ.en e0).live = true ∧ (σ.en e0).gen = 1 ∧ (σ.en e0).frz = false ∧ (σ.en e0).sz = sz ∧ (σ.en e0).elems = []
theorem f54 (ws : List Wr) (c : Bool) (hl : ws.length ≤ 1048576) (hr : ∀ w ∈ ws, w.row.length ≤ 1048576) : Fx 54 [.fro none c (ws.map wA)] (.own 3 (ws.map wO)) := by
  refine fn_of true Tryz.func54 (by kernel_rfl) rfl (by kernel_rfl) (by kernel_rfl) (Nat.le_of_ble_eq_true rfl) rfl fun Q hQ => ?_
  simp only [vmA, Nat.reduceEqDiff, reduceIte, Nat.reduceAdd, Nat.reduceBEq, reduceCtorEq, Nat.reduceLT, Int.reduceLE, Int.reduceLT, Int.reduceEq, Nat.reduceMul, Nat.reduceLeDiff, List.length_map]
  refine WT_loop (fun (y : Nat × Nat × Bool) σ => y.1 ≤ ws.length ∧ σ.sl 0 = .fro none c (ws.map wA) ∧ σ.sl 4 = .int .i64 y.1 ∧ grow σ 3 384 1536 3 y.1 ((ws.take y.1).map wO) y.2.1 y.2.2) (fun y => ws.length - y.1) (0, 0, false) ⟨by simp, by simp [vmI], by simp [vmI], by simp [vmI, grow]⟩ ?_
  rintro ⟨i, g, b⟩ σ ⟨hi, e0, e4, ho⟩
  dsimp only at hi e4 ho
  have hlt' : (ws.take i).length = i := by simp; omega
  have hw : ∀ i, i < ws.length → ws[i]!.row.length ≤ 1048576 := fun i h => hr _ (by rw [getElem!_pos ws i h]; exact List.getElem_mem _)
  cases b
  all_goals simp only [grow] at ho
  · obtain ⟨⟨rfl, _⟩, o1, o2, o3, o4, o5, o6⟩ := ho
    simp only [vmA, Nat.reduceEqDiff, reduceIte, Nat.reduceAdd, Nat.reduceBEq, reduceCtorEq, Nat.reduceLT, Int.reduceLE, Int.reduceLT, Int.reduceEq, Nat.reduceMul, Nat.reduceLeDiff, e0, e4, o1, o2, o3, o4, o5, o6, List.length_map, wA, Option.bind_none]
    refine ⟨fun hlt => ⟨hlt, by omega, callD (f105 _ _ (hw 0 (by omega))) ?_⟩, fun hge => ?_⟩
    · simp only [vmA, Nat.reduceEqDiff, reduceIte, Nat.reduceAdd, Nat.reduceBEq, reduceCtorEq, Nat.reduceLT, Int.reduceLE, Int.reduceLT, Int.reduceEq, Nat.reduceMul, Nat.reduceLeDiff, e0, e4, o1, o2, o3, o4, o5, o6, List.length_map, wA, Option.bind_none]
      rw [wr (by omega)]
      refine ⟨(1, (σ.en 1536).gen + 1, true), ⟨by dsimp only; omega, rfl, ?_⟩, by dsimp only; omega⟩
      have ht := take_next ws 0 (by omega)
      simp only [vmA, Nat.reduceEqDiff, reduceIte, Nat.reduceAdd, Nat.reduceBEq, reduceCtorEq, Nat.reduceLT, Int.reduceLE, Int.reduceLT, Int.reduceEq, Nat.reduceMul, Nat.reduceLeDiff, grow, e0, e4, o1, o2, o3, o4, o5, o6, Nat.zero_add, ht, wO, Option.bind_none]
    · (refine hQ _ ?_; simp only [vmA, Nat.reduceEqDiff, reduceIte, Nat.reduceAdd, Nat.reduceBEq, reduceCtorEq, Nat.reduceLT, Int.reduceLE, Int.reduceLT, Int.reduceEq, Nat.reduceMul, Nat.reduceLeDiff, Tryz.f54, retG, resL, St.closeVs, St.closeV, e0, e4, o1, o2, o3, o4, o5, o6])
      rw [List.eq_nil_of_length_eq_zero (l := ws) (by omega)]
      rfl
  · obtain ⟨o1, o2, o3, o4, o5, o6⟩ := ho
    simp only [vmA, Nat.reduceEqDiff, reduceIte, Nat.reduceAdd, Nat.reduceBEq, reduceCtorEq, Nat.reduceLT, Int.reduceLE, Int.reduceLT, Int.reduceEq, Nat.reduceMul, Nat.reduceLeDiff, e0, e4, o1, o2, o3, o4, o5, o6, List.length_map, wA, Option.bind_none]
    refine ⟨fun hlt => ⟨hlt, by omega, callD (f105 _ _ (hw i (by omega))) ?_⟩, fun hge => ?_⟩
    · simp only [vmA, Nat.reduceEqDiff, reduceIte, Nat.reduceAdd, Nat.reduceBEq, reduceCtorEq, Nat.reduceLT, Int.reduceLE, Int.reduceLT, Int.reduceEq, Nat.reduceMul, Nat.reduceLeDiff, e0, e4, o1, o2, o3, o4, o5, o6, List.length_map, wA, Option.bind_none, hlt']
      rw [wr (by omega)]
      refine ⟨by omega, (i + 1, g + 1, true), ⟨by dsimp only; omega, rfl, ?_⟩, by dsimp only; omega⟩
      have ht := take_next ws i (by omega)
      simp only [vmA, Nat.reduceEqDiff, reduceIte, Nat.reduceAdd, Nat.reduceBEq, reduceCtorEq, Nat.reduceLT, Int.reduceLE, Int.reduceLT, Int.reduceEq, Nat.reduceMul, Nat.reduceLeDiff, grow, e0, e4, o1, o2, o3, o4, o5, o6, ht, wO, Option.bind_none, List.map_append]
    · (refine hQ _ ?_; simp only [vmA, Nat.reduceEqDiff, reduceIte, Nat.reduceAdd, Nat.reduceBEq, reduceCtorEq, Nat.reduceLT, Int.reduceLE, Int.reduceLT, Int.reduceEq, Nat.reduceMul, Nat.reduceLeDiff, Tryz.f54, retG, resL, St.closeVs, St.closeV, e0, e4, o1, o2, o3, o4, o5, o6, hlt'])
      rw [List.take_of_length_le (l := ws) (by omega), List.take_of_length_le (by simp; omega)]
theorem f150 (ws : List Ver) (c : Bool) (hl : ws.length ≤ 1048576) (hr : ∀ w ∈ ws, w.row.length ≤ 1048576) : Fx 150 [.fro none c (ws.map gA)] (.own 4 (ws.map gO)) := by
  refine fn_of true Tryz.func150 (by kernel_rfl) rfl (by kernel_rfl) (by kernel_rfl) (Nat.le_of_ble_eq_true rfl) rfl fun Q hQ => ?_
  simp only [vmA, Nat.reduceEqDiff, reduceIte, Nat.reduceAdd, Nat.reduceBEq, reduceCtorEq, Nat.reduceLT, Int.reduceLE, Int.reduceLT, Int.reduceEq, Nat.reduceMul, Nat.reduceLeDiff, List.length_map]
  refine WT_loop (fun (y : Nat × Nat × Bool) σ => y.1 ≤ ws.length ∧ σ.sl 0 = .fro none c (ws.map gA) ∧ σ.sl 4 = .int .i64 y.1 ∧ grow σ 3 384 1536 4 y.1 ((ws.take y.1).map gO) y.2.1 y.2.2) (fun y => ws.length - y.1) (0, 0, false) ⟨by simp, by simp [vmI], by simp [vmI], by simp [vmI, grow]⟩ ?_
  rintro ⟨i, g, b⟩ σ ⟨hi, e0, e4, ho⟩
  dsimp only at hi e4 ho
  have hlt' : (ws.take i).length = i := by simp; omega
  have hw : ∀ i, i < ws.length → ws[i]!.row.length ≤ 1048576 := fun i h => hr _ (by rw [getElem!_pos ws i h]; exact List.getElem_mem _)
  cases b
  all_goals simp only [grow] at ho
  · obtain ⟨⟨rfl, _⟩, o1, o2, o3, o4, o5, o6⟩ := ho
    simp only [vmA, Nat.reduceEqDiff, reduceIte, Nat.reduceAdd, Nat.reduceBEq, reduceCtorEq, Nat.reduceLT, Int.reduceLE, Int.reduceLT, Int.reduceEq, Nat.reduceMul, Nat.reduceLeDiff, e0, e4, o1, o2, o3, o4, o5, o6, List.length_map, gA, Option.bind_none]
    refine ⟨fun hlt => ⟨hlt, by omega, callD (f105 _ _ (hw 0 (by omega))) ?_⟩, fun hge => ?_⟩
    · simp only [vmA, Nat.reduceEqDiff, reduceIte, Nat.reduceAdd, Nat.reduceBEq, reduceCtorEq, Nat.reduceLT, Int.reduceLE, Int.reduceLT, Int.reduceEq, Nat.reduceMul, Nat.reduceLeDiff, e0, e4, o1, o2, o3, o4, o5, o6, List.length_map, gA, Option.bind_none]
      rw [wr (by omega)]
      refine ⟨(1, (σ.en 1536).gen + 1, true), ⟨by dsimp only; omega, rfl, ?_⟩, by dsimp only; omega⟩
      have ht := take_next ws 0 (by omega)
      simp only [vmA, Nat.reduceEqDiff, reduceIte, Nat.reduceAdd, Nat.reduceBEq, reduceCtorEq, Nat.reduceLT, Int.reduceLE, Int.reduceLT, Int.reduceEq, Nat.reduceMul, Nat.reduceLeDiff, grow, e0, e4, o1, o2, o3, o4, o5, o6, Nat.zero_add, ht, gO, Option.bind_none]
    · (refine hQ _ ?_; simp only [vmA, Nat.reduceEqDiff, reduceIte, Nat.reduceAdd, Nat.reduceBEq, reduceCtorEq, Nat.reduceLT, Int.reduceLE, Int.reduceLT, Int.reduceEq, Nat.reduceMul, Nat.reduceLeDiff, Tryz.f150, retG, resL, St.closeVs, St.closeV, e0, e4, o1, o2, o3, o4, o5, o6])
      rw [List.eq_nil_of_length_eq_zero (l := ws) (by omega)]
      rfl
  · obtain ⟨o1, o2, o3, o4, o5, o6⟩ := ho
    simp only [vmA, Nat.reduceEqDiff, reduceIte, Nat.reduceAdd, Nat.reduceBEq, reduceCtorEq, Nat.reduceLT, Int.reduceLE, Int.reduceLT, Int.reduceEq, Nat.reduceMul, Nat.reduceLeDiff, e0, e4, o1, o2, o3, o4, o5, o6, List.length_map, gA, Option.bind_none]
    refine ⟨fun hlt => ⟨hlt, by omega, callD (f105 _ _ (hw i (by omega))) ?_⟩, fun hge => ?_⟩
    · simp only [vmA, Nat.reduceEqDiff, reduceIte, Nat.reduceAdd, Nat.reduceBEq, reduceCtorEq, Nat.reduceLT, Int.reduceLE, Int.reduceLT, Int.reduceEq, Nat.reduceMul, Nat.reduceLeDiff, e0, e4, o1, o2, o3, o4, o5, o6, List.length_map, gA, Option.bind_none, hlt']
      rw [wr (by omega)]
      refine ⟨by omega, (i + 1, g + 1, true), ⟨by dsimp only; omega, rfl, ?_⟩, by dsimp only; omega⟩
      have ht := take_next ws i (by omega)
      simp only [vmA, Nat.reduceEqDiff, reduceIte, Nat.reduceAdd, Nat.reduceBEq, reduceCtorEq, Nat.reduceLT, Int.reduceLE, Int.reduceLT, Int.reduceEq, Nat.reduceMul, Nat.reduceLeDiff, grow, e0, e4, o1, o2, o3, o4, o5, o6, ht, gO, Option.bind_none, List.map_append]
    · (refine hQ _ ?_; simp only [vmA, Nat.reduceEqDiff, reduceIte, Nat.reduceAdd, Nat.reduceBEq, reduceCtorEq, Nat.reduceLT, Int.reduceLE, Int.reduceLT, Int.reduceEq, Nat.reduceMul, Nat.reduceLeDiff, Tryz.f150, retG, resL, St.closeVs, St.closeV, e0, e4, o1, o2, o3, o4, o5, o6, hlt'])
      rw [List.take_of_length_le (l := ws) (by omega), List.take_of_length_le (by simp; omega)]
end
section
open Go Go.Vm Go.Proofs
set_option maxRecDepth 100000
set_option maxHeartbeats 8000000
set_option linter.unusedSimpArgs false
set_option linter.unusedVariables false
set_option maxHeartbeats 8000000
set_option linter.unusedSimpArgs false
set_option linter.unusedVariables false
/-- What spec.l14Note makes. -/
def noteL (key : Int) : List Int → Bool → List Int
  | [], d => if d then [] else [key]
  | x :: xs, d => (if key ≤ x ∧ d = false then [key] else []) ++ ((if x ≠ key then [x] else []) ++ noteL key xs (d || decide (key ≤ x)))
theorem app_f {α : Type} (f : α → AV) (L : List α) (k : α) (x : AV) (h : x = f k) : List.map f L ++ [x] = List.map f (L ++ [k]) := by rw [h, List.map_append]; rfl
theorem app_iA (L : List Int) (k : Int) : List.map iA L ++ [AV.int .i64 k] = List.map iA (L ++ [k]) := app_f iA L k _ rfl
theorem len1 {α : Type} (L : List α) (k : α) : (L ++ [k]).length = L.length + 1 := by simp
theorem tk1 {α : Type} (f : α → AV) (L : List α) (k : α) : List.take (L.length + 1) (List.map f (L ++ [k])) = List.map f (L ++ [k]) := List.take_of_length_le (by simp)
end
section
open Go Go.Vm Go.Proofs
set_option maxRecDepth 100000
set_option maxHeartbeats 8000000
set_option linter.unusedSimpArgs false
set_option linter.unusedVariables false
set_option maxHeartbeats 8000000
set_option linter.unusedSimpArgs false
set_option linter.unusedVariables false
/-- What spec.l14Put makes. -/
def putL (w : Wr) : List Wr → Bool → List Wr
  | [], d => if d then [] else [w]
  | x :: xs, d => (if w.key ≤ x.key ∧ d = false then [w] else []) ++ ((if x.key ≠ w.key then [x] else []) ++ putL w xs (d || decide (w.key ≤ x.key)))
end
