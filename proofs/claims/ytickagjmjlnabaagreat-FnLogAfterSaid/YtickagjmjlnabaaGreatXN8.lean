/- WALK of functions of the seat, or plain laws for it: each theorem f<k> says what function k returns, for every world and all arguments that stand for the values named. Conditions: none but those ahead of each theorem. -/
import Derived.Test.YtickagjmjlnabaaGreatXN7
open Go Go.Vm Go.Proofs
set_option maxRecDepth 100000
set_option maxHeartbeats 8000000
set_option linter.unusedSimpArgs false
set_option linter.unusedVariables false
theorem hasFroL_vA (xs : List Val) : hasFro.hasFroL (xs.map vA) = false := by
  induction xs with
  | nil => rfl
  | cons x xs ih => simp only [List.map_cons, hasFro.hasFroL, ih, vA, hasFro]; rfl
theorem hasFroL_rO (xs : List (List Val)) : hasFro.hasFroL (xs.map rO) = false := by
  induction xs with
  | nil => rfl
  | cons x xs ih => simp only [List.map_cons, hasFro.hasFroL, ih, rO, hasFro, hasFroL_vA]; rfl
/-- The rows that are there at a time, of the first keys. -/
def rowsT (vs : List Ver) (t : Int) (n : Nat) : List (List Val) := (List.range n).filterMap fun (k : Nat) => (vs.find? (fun v => decide (liveAt (k : Int) t v))).map Ver.row
theorem rowsT_succ (vs : List Ver) (t : Int) (n : Nat) : rowsT vs t (n + 1) = rowsT vs t n ++ (match vs.find? (fun v => decide (liveAt (n : Int) t v)) with | some v => [v.row] | none => []) := by
  unfold rowsT
  rw [List.range_succ, List.filterMap_append]
  cases h : vs.find? (fun v => decide (liveAt (n : Int) t v)) <;> simp [h]
theorem f11 (T : Int) (vs : List Ver) (c : Bool) (hg : Good T vs) (t : Int) : Fx 11 [.fro none c (vs.map gA), .int .i64 t] (.own 1 ((rowsT vs t 5).map rO)) := by
  have hl := hg.len
  refine fn_of ⟨false, [], []⟩ Tryz.func11 (by kernel_rfl) rfl (by kernel_rfl) (by kernel_rfl) (Nat.le_of_ble_eq_true rfl) rfl fun Q hQ => ?_
  simp only [vmA, Nat.reduceEqDiff, reduceIte, Nat.reduceAdd, Nat.reduceBEq, reduceCtorEq, Nat.reduceLT, Int.reduceLE, Int.reduceLT, Int.reduceEq, Nat.reduceMul, Nat.reduceLeDiff, List.length_map]
  refine callD (f27 T vs c hg) ?_
  simp only [vmA, Nat.reduceEqDiff, reduceIte, Nat.reduceAdd, Nat.reduceBEq, reduceCtorEq, Nat.reduceLT, Int.reduceLE, Int.reduceLT, Int.reduceEq, Nat.reduceMul, Nat.reduceLeDiff, List.length_map]
  have hlen : ∀ n, n ≤ 5 → (rowsT vs t n).length ≤ n := fun n _ => by
    unfold rowsT
    exact Nat.le_trans (List.length_filterMap_le _ _) (by simp)
  refine WT_loopN (fun (y : Nat × Nat) σ => y.1 ≤ 5 ∧ σ.sl 0 = .fro none c (vs.map gA) ∧ σ.sl 1 = .int .i64 t ∧ σ.sl 12 = .int .i64 y.1 ∧ σ.sl 5 = .hd 320 y.2 0 (rowsT vs t y.1).length false ∧ (σ.en 320).live = true ∧ (σ.en 320).gen = y.2 ∧ (σ.en 320).frz = false ∧ (σ.en 320).sz = 1 ∧ (σ.en 320).elems = (rowsT vs t y.1).map rA) (fun y => 5 - y.1) (0, 1) 5 1 (by simp [put_sl, put_en, put_none, init_sl, fresh_sl, fresh_en, ent_sl, ent_en, init_en]) (by simp [put_sl, put_en, put_none, init_sl, fresh_sl, fresh_en, ent_sl, ent_en, init_en, takeRes, takeV, takeLeaf, eid]; exact ⟨rfl, rfl⟩) ?_
  rintro ⟨i, g⟩ σ ⟨hi, e0, e1, e12, o1, o2, o3, o4, o5, o6⟩
  dsimp only at hi e12 o1 o3 o6
  have hli := hlen i hi
  simp only [vmA, Nat.reduceEqDiff, reduceIte, Nat.reduceAdd, Nat.reduceBEq, reduceCtorEq, Nat.reduceLT, Int.reduceLE, Int.reduceLT, Int.reduceEq, Nat.reduceMul, Nat.reduceLeDiff, e0, e1, e12, o1, o2, o3, o4, o5, o6, List.length_map]
  refine ⟨fun hlt => ?_, fun hge => ?_⟩
  · have hs := f28 vs c (by omega) i t
    have hsu := rowsT_succ vs t i
    unfold seenV at hs
    cases hf : vs.find? (fun v => decide (liveAt (i : Int) t v)) with
    | none =>
      rw [hf] at hs hsu
      refine callD hs ?_
      simp only [vmA, Nat.reduceEqDiff, reduceIte, Nat.reduceAdd, Nat.reduceBEq, reduceCtorEq, Nat.reduceLT, Int.reduceLE, Int.reduceLT, Int.reduceEq, Nat.reduceMul, Nat.reduceLeDiff, e0, e1, e12, o1, o2, o3, o4, o5, o6, List.length_map, gA]
      have hsu' : rowsT vs t (i + 1) = rowsT vs t i := by rw [hsu]; exact List.append_nil _
      rw [wr (by omega)]
      refine ⟨(i + 1, g), ⟨by dsimp only; omega, rfl, ?_⟩, by dsimp only; omega⟩
      simp [hsu']
    | some v =>
      rw [hf] at hs hsu
      refine callD hs ?_
      simp only [vmA, Nat.reduceEqDiff, reduceIte, Nat.reduceAdd, Nat.reduceBEq, reduceCtorEq, Nat.reduceLT, Int.reduceLE, Int.reduceLT, Int.reduceEq, Nat.reduceMul, Nat.reduceLeDiff, e0, e1, e12, o1, o2, o3, o4, o5, o6, List.length_map, gA]
      have hsu' : rowsT vs t (i + 1) = rowsT vs t i ++ [v.row] := hsu
      rw [wr (by omega)]
      refine ⟨⟨by omega, by omega⟩, (i + 1, g + 1), ⟨by dsimp only; omega, rfl, ?_⟩, by dsimp only; omega⟩
      simp [hsu', rA]
  · obtain rfl : i = 5 := by omega
    have hr : ∀ w ∈ rowsT vs t 5, w.length ≤ 1048576 := fun w hw => by
      unfold rowsT at hw
      obtain ⟨k, _, hk⟩ := List.mem_filterMap.1 hw
      obtain ⟨v, hv, rfl⟩ := Option.map_eq_some_iff.1 hk
      have := (hg.one v (List.mem_of_find?_eq_some hv)).row.1
      omega
    have hfz : ((rowsT vs t 5).map rA).map froize = (rowsT vs t 5).map rA := map_froize_rA _
    rw [hfz]
    refine callD (f29 (rowsT vs t 5) false (by omega) hr) ?_
    simp only [vmA, Nat.reduceEqDiff, reduceIte, Nat.reduceAdd, Nat.reduceBEq, reduceCtorEq, Nat.reduceLT, Int.reduceLE, Int.reduceLT, Int.reduceEq, Nat.reduceMul, Nat.reduceLeDiff, e0, e1, e12, o1, o2, o3, o4, o5, o6, List.length_map, gA, behind_nf, hasFro, hasFroL_rO]
    (refine hQ _ ?_; simp only [vmA, Nat.reduceEqDiff, reduceIte, Nat.reduceAdd, Nat.reduceBEq, reduceCtorEq, Nat.reduceLT, Int.reduceLE, Int.reduceLT, Int.reduceEq, Nat.reduceMul, Nat.reduceLeDiff, Tryz.f11, retG, resL, St.closeVs, St.closeV, o1, o2, o3, o4, o5, o6, behind_nf, hasFro, hasFroL_rO])
