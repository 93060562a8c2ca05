/- A part of the evaluator of the walks. Conditions: none but those ahead of each theorem. -/
import Derived.Test.YtfimolakepbdbaaWE7
open Go Go.Vm Go.Proofs
set_option maxRecDepth 100000
set_option linter.unusedSimpArgs false
set_option linter.unusedVariables false
set_option maxHeartbeats 2000000 in
theorem f8 (xs : List (List Val)) (c : Bool) (hl : xs.length ≤ 9223372036854775807) (hs : ∀ r ∈ xs, okR r) : Fx 8 [.fro none c (xs.map rA)] (.bool true) := by
  refine fn_of false Try.func8 (by kernel_rfl) rfl (by kernel_rfl) (by kernel_rfl) (Nat.le_of_ble_eq_true rfl) rfl fun Q hQ => ?_
  simp only [vmA, Nat.reduceEqDiff, reduceIte, Nat.reduceAdd, Nat.reduceBEq, reduceCtorEq, Nat.reduceLT, Int.reduceLE, Int.reduceLT, Int.reduceEq, Nat.reduceMul, Nat.reduceLeDiff]
  refine callD (f9 xs c 1048576 hs hl (by omega) (by omega)) ?_
  simp only [vmA, Nat.reduceEqDiff, reduceIte, Nat.reduceAdd, Nat.reduceBEq, reduceCtorEq, Nat.reduceLT, Int.reduceLE, Int.reduceLT, Int.reduceEq, Nat.reduceMul, Nat.reduceLeDiff]
  refine ⟨fun h1 => ?_, fun h1 => ?_⟩
  · (refine hQ _ ?_; simp only [vmA, Nat.reduceEqDiff, reduceIte, Nat.reduceAdd, Nat.reduceBEq, reduceCtorEq, Nat.reduceLT, Int.reduceLE, Int.reduceLT, Int.reduceEq, Nat.reduceMul, Nat.reduceLeDiff, Try.f8, retG, resL, St.closeVs, St.closeV])
  obtain ⟨k1, k2⟩ := sz_smR (xs := xs) (by omega)
  refine callD (f11o xs c k1 k2) ?_
  simp only [vmA, Nat.reduceEqDiff, reduceIte, Nat.reduceAdd, Nat.reduceBEq, reduceCtorEq, Nat.reduceLT, Int.reduceLE, Int.reduceLT, Int.reduceEq, Nat.reduceMul, Nat.reduceLeDiff, map_froize_rO, List.length_map]
  refine callR (f29 xs false k1 k2 hs) ?_
  rintro _ _ ⟨⟨ys, hy, rfl⟩, rfl⟩
  have h17 : ∀ c, Fx 28 [.fro none c (xs.map rA)] (.own 2 (((wRun (ys.map Prod.snd) (ys.map Prod.snd).length 0 0 0)).map sA)) := fun c => (f28 xs c k1 k2 hs).mono fun r l ⟨⟨zs, hz, hr⟩, hl⟩ => ⟨by rw [hr, WinR.uniq hz hy], hl⟩
  have hgl : (wRun (ys.map Prod.snd) (ys.map Prod.snd).length 0 0 0).length ≤ 1048576 := by have := wRun_len (rs := ys.map Prod.snd) (ys.map Prod.snd).length 0 0 0 (Nat.zero_le _); have := hy.len; omega
  generalize wRun (ys.map Prod.snd) (ys.map Prod.snd).length 0 0 0 = gs at hgl h17 ⊢
  simp only [vmA, Nat.reduceEqDiff, reduceIte, Nat.reduceAdd, Nat.reduceBEq, reduceCtorEq, Nat.reduceLT, Int.reduceLE, Int.reduceLT, Int.reduceEq, Nat.reduceMul, Nat.reduceLeDiff, behind_nf, hasFroL_sA, List.length_map]
  refine callD (f11o xs c k1 k2) ?_
  simp only [vmA, Nat.reduceEqDiff, reduceIte, Nat.reduceAdd, Nat.reduceBEq, reduceCtorEq, Nat.reduceLT, Int.reduceLE, Int.reduceLT, Int.reduceEq, Nat.reduceMul, Nat.reduceLeDiff, map_froize_rO, List.length_map]
  refine callD (h17 false) ?_
  simp only [vmA, Nat.reduceEqDiff, reduceIte, Nat.reduceAdd, Nat.reduceBEq, reduceCtorEq, Nat.reduceLT, Int.reduceLE, Int.reduceLT, Int.reduceEq, Nat.reduceMul, Nat.reduceLeDiff, behind_nf, hasFroL_sA, map_froize_rO, map_froize_sA, List.length_map]
  refine callD (f24 gs false false (by omega)) ?_
  simp only [vmA, Nat.reduceEqDiff, reduceIte, Nat.reduceAdd, Nat.reduceBEq, reduceCtorEq, Nat.reduceLT, Int.reduceLE, Int.reduceLT, Int.reduceEq, Nat.reduceMul, Nat.reduceLeDiff, map_froize_rO, map_froize_sA, List.length_map]
  refine callD (f11o xs c k1 k2) ?_
  simp only [vmA, Nat.reduceEqDiff, reduceIte, Nat.reduceAdd, Nat.reduceBEq, reduceCtorEq, Nat.reduceLT, Int.reduceLE, Int.reduceLT, Int.reduceEq, Nat.reduceMul, Nat.reduceLeDiff, map_froize_rO, map_froize_sA, List.length_map]
  refine callD (f13 xs false false k1 k2) ?_
  simp only [vmA, Nat.reduceEqDiff, reduceIte, Nat.reduceAdd, Nat.reduceBEq, reduceCtorEq, Nat.reduceLT, Int.reduceLE, Int.reduceLT, Int.reduceEq, Nat.reduceMul, Nat.reduceLeDiff, map_froize_rO, map_froize_sA, List.length_map]
  have hpe := pR_le xs k2 xs.length (Nat.le_refl _)
  refine callR (f14 xs 1 (by omega) k2 (by omega)) ?_
  rintro _ _ ⟨rfl, rfl⟩
  have hxl := mkRs_length xs 1
  generalize mkRs xs 1 = xs2 at hxl
  simp only [vmA, Nat.reduceEqDiff, reduceIte, Nat.reduceAdd, Nat.reduceBEq, reduceCtorEq, Nat.reduceLT, Int.reduceLE, Int.reduceLT, Int.reduceEq, Nat.reduceMul, Nat.reduceLeDiff, map_froize_rO, map_froize_sA, List.length_map, hxl]
  refine ⟨fun h => absurd h (by omega), fun _ => ?_⟩
  refine callD (f24 gs false false (by omega)) ?_
  simp only [vmA, Nat.reduceEqDiff, reduceIte, Nat.reduceAdd, Nat.reduceBEq, reduceCtorEq, Nat.reduceLT, Int.reduceLE, Int.reduceLT, Int.reduceEq, Nat.reduceMul, Nat.reduceLeDiff, map_froize_rO, map_froize_sA, List.length_map, hxl]
  have h15 := f26 gs.length 1 false (by omega) (by omega)
  have h14 := f25 gs 1 (by omega) (by omega)
  have hzl := mkSs_length gs.length 1
  generalize mkSs gs.length 1 = zs at h15 h14 hzl
  refine callR h14 ?_
  rintro _ _ ⟨rfl, rfl⟩
  have hzt : (zs.map sA).take gs.length = zs.map sA := List.take_of_length_le (by simp; omega)
  simp only [vmA, Nat.reduceEqDiff, reduceIte, Nat.reduceAdd, Nat.reduceBEq, reduceCtorEq, Nat.reduceLT, Int.reduceLE, Int.reduceLT, Int.reduceEq, Nat.reduceMul, Nat.reduceLeDiff, map_froize_rO, map_froize_sA, List.length_map, hzl, hzt, hxl]
  refine callD h15 ?_
  simp only [vmA, Nat.reduceEqDiff, reduceIte, Nat.reduceAdd, Nat.reduceBEq, reduceCtorEq, Nat.reduceLT, Int.reduceLE, Int.reduceLT, Int.reduceEq, Nat.reduceMul, Nat.reduceLeDiff, map_froize_rO, map_froize_sA, List.length_map, hzl, hzt, hxl]
  refine ⟨fun h => absurd h (by omega), fun _ => ?_⟩
  refine callD (f11o xs c k1 k2) ?_
  simp only [vmA, Nat.reduceEqDiff, reduceIte, Nat.reduceAdd, Nat.reduceBEq, reduceCtorEq, Nat.reduceLT, Int.reduceLE, Int.reduceLT, Int.reduceEq, Nat.reduceMul, Nat.reduceLeDiff, map_froize_rO, map_froize_sA, List.length_map, hzl, hzt, hxl]
  refine callD (h17 false) ?_
  simp only [vmA, Nat.reduceEqDiff, reduceIte, Nat.reduceAdd, Nat.reduceBEq, reduceCtorEq, Nat.reduceLT, Int.reduceLE, Int.reduceLT, Int.reduceEq, Nat.reduceMul, Nat.reduceLeDiff, behind_nf, hasFroL_sA, map_froize_rO, map_froize_sA, List.length_map, hzl, hzt, hxl]
  refine callD (f24 gs false false (by omega)) ?_
  simp only [vmA, Nat.reduceEqDiff, reduceIte, Nat.reduceAdd, Nat.reduceBEq, reduceCtorEq, Nat.reduceLT, Int.reduceLE, Int.reduceLT, Int.reduceEq, Nat.reduceMul, Nat.reduceLeDiff, map_froize_rO, map_froize_sA, List.length_map, hzl, hzt, hxl]
  refine callD h15 ?_
  simp only [vmA, Nat.reduceEqDiff, reduceIte, Nat.reduceAdd, Nat.reduceBEq, reduceCtorEq, Nat.reduceLT, Int.reduceLE, Int.reduceLT, Int.reduceEq, Nat.reduceMul, Nat.reduceLeDiff, map_froize_rO, map_froize_sA, List.length_map, hzl, hzt, hxl]
  refine ⟨fun h => absurd h (by omega), fun _ => ?_⟩
  (refine hQ _ ?_; simp only [vmA, Nat.reduceEqDiff, reduceIte, Nat.reduceAdd, Nat.reduceBEq, reduceCtorEq, Nat.reduceLT, Int.reduceLE, Int.reduceLT, Int.reduceEq, Nat.reduceMul, Nat.reduceLeDiff, Try.f8, retG, resL, St.closeVs, St.closeV])
