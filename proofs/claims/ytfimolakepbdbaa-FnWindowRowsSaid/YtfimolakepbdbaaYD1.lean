/- WALK of functions of the seat, or plain laws for it: each theorem f<k> says what function k returns, for every world and all arguments that stand for the values named. Conditions: none but those ahead of each theorem. -/
import Derived.Test.YtfimolakepbdbaaYC2
open Go Go.Vm Go.Proofs
set_option maxRecDepth 100000
set_option linter.unusedSimpArgs false
set_option linter.unusedVariables false
theorem hasFroL_vA (xs : List Val) : hasFro.hasFroL (xs.map vA) = false := by
  induction xs with
  | nil => rfl
  | cons x xs ih => simp only [List.map_cons, hasFro.hasFroL, ih, vA, hasFro]; rfl
theorem hasFroL_rO (xs : List (List Val)) : hasFro.hasFroL (xs.map rO) = false := by
  induction xs with
  | nil => rfl
  | cons x xs ih => simp only [List.map_cons, hasFro.hasFroL, ih, rO, hasFro, hasFroL_vA]; rfl
theorem szL_mem {α : Type} {f : α → Int → Int} (hf : SzOk f) : ∀ (xs : List α) (l : Int), 0 ≤ l → 0 ≤ szL f xs l → ∀ x ∈ xs, ∃ l', 0 ≤ l' ∧ l' ≤ l ∧ 0 ≤ f x l'
  | [], l, _, _, x, hx => by cases hx
  | y :: xs, l, hl, h, x, hx => by
    rw [szL] at h
    split at h
    · omega
    · rename_i h1
      rcases List.mem_cons.1 hx with rfl | hx
      · exact ⟨l, hl, Int.le_refl _, by omega⟩
      · have := hf y l hl
        obtain ⟨l', a, b, c⟩ := szL_mem hf xs (f y l) (by omega) h x hx
        exact ⟨l', a, by omega, c⟩
theorem szS_mem {α : Type} {f : α → Int → Int} (hf : SzOk f) {xs : List α} {l : Int} (h : 0 ≤ szS f xs l) : xs.length ≤ l ∧ ∀ x ∈ xs, ∃ l', 0 ≤ l' ∧ l' ≤ l ∧ 0 ≤ f x l' := by
  unfold szS at h
  split at h
  · omega
  · refine ⟨by omega, fun x hx => ?_⟩
    obtain ⟨l', h1, h2, h3⟩ := szL_mem hf xs _ (by omega) h x hx
    exact ⟨l', h1, by omega, h3⟩
theorem sz_smR {xs : List (List Val)} (h : 0 ≤ szS szr xs 1048576) : xs.length ≤ 1048576 ∧ ∀ r ∈ xs, r.length ≤ 1048576 := by
  obtain ⟨h1, h2⟩ := szS_mem szr_ok h
  refine ⟨by omega, fun r hr => ?_⟩
  obtain ⟨l', h3, h4, h5⟩ := h2 r hr
  obtain ⟨h6, _⟩ := szS_mem szv_ok (show 0 ≤ szS szv r l' from h5)
  omega
theorem rT_snd (ys : List (Nat × List Val)) : ys.map rT = (ys.map Prod.snd).map rO := by rw [List.map_map]; rfl
theorem WinR.sub {ws : List (List Val)} {ys : List (Nat × List Val)} (h : WinR ws ys) : (ys.map Prod.snd).length ≤ ws.length ∧ ∀ r ∈ ys.map Prod.snd, r ∈ ws := by
  rcases h with ⟨_, hp, _⟩ | ⟨_, rfl⟩
  · refine ⟨by rw [List.length_map, hp.length_eq, tagL_length]; exact Nat.le_refl _, fun r hr => ?_⟩
    obtain ⟨z, hz, rfl⟩ := List.mem_map.1 hr
    exact tagL_mem (hp.mem_iff.1 hz)
  · exact ⟨by simp, by simp⟩
set_option maxHeartbeats 2000000 in
theorem f3 (xs : List (List Val)) (c : Bool) (hl : xs.length ≤ 9223372036854775807) (hs : ∀ r ∈ xs, okR r) : Fx 3 [.fro none c (xs.map rA)] (.bool true) := by
  refine fn_of false Try.func3 (by kernel_rfl) rfl (by kernel_rfl) (by kernel_rfl) (Nat.le_of_ble_eq_true rfl) rfl fun Q hQ => ?_
  simp only [vmA, Nat.reduceEqDiff, reduceIte, Nat.reduceAdd, Nat.reduceBEq, reduceCtorEq, Nat.reduceLT, Int.reduceLE, Int.reduceLT, Int.reduceEq, Nat.reduceMul, Nat.reduceLeDiff]
  refine callD (f9 xs c 1048576 hs hl (by omega) (by omega)) ?_
  simp only [vmA, Nat.reduceEqDiff, reduceIte, Nat.reduceAdd, Nat.reduceBEq, reduceCtorEq, Nat.reduceLT, Int.reduceLE, Int.reduceLT, Int.reduceEq, Nat.reduceMul, Nat.reduceLeDiff]
  refine ⟨fun h1 => ?_, fun h1 => ?_⟩
  · (refine hQ _ ?_; simp only [vmA, Nat.reduceEqDiff, reduceIte, Nat.reduceAdd, Nat.reduceBEq, reduceCtorEq, Nat.reduceLT, Int.reduceLE, Int.reduceLT, Int.reduceEq, Nat.reduceMul, Nat.reduceLeDiff, Try.f3, retG, resL, St.closeVs, St.closeV])
  obtain ⟨k1, k2⟩ := sz_smR (xs := xs) (by omega)
  refine callD (f11o xs c k1 k2) ?_
  simp only [vmA, Nat.reduceEqDiff, reduceIte, Nat.reduceAdd, Nat.reduceBEq, reduceCtorEq, Nat.reduceLT, Int.reduceLE, Int.reduceLT, Int.reduceEq, Nat.reduceMul, Nat.reduceLeDiff, map_froize_rO, List.length_map]
  refine callR (f10 xs false k1 k2 hs) ?_
  rintro _ _ ⟨⟨ys, hy, rfl⟩, rfl⟩
  rw [rT_snd]
  have hsub := hy.sub
  have h12 : ∀ c, Fx 12 [.fro none c (xs.map rA)] (.own 1 ((ys.map Prod.snd).map rO)) := fun c => (f12 xs c k1 k2 hs).mono fun r l ⟨⟨zs, hz, hr⟩, hl⟩ => ⟨by rw [hr, rT_snd, WinR.uniq hz hy], hl⟩
  generalize ys.map Prod.snd = gs at hsub h12
  obtain ⟨q1, q2⟩ := hsub
  have q3 : ∀ r ∈ gs, r.length ≤ 1048576 := fun r hr => k2 r (q2 r hr)
  simp only [vmA, Nat.reduceEqDiff, reduceIte, Nat.reduceAdd, Nat.reduceBEq, reduceCtorEq, Nat.reduceLT, Int.reduceLE, Int.reduceLT, Int.reduceEq, Nat.reduceMul, Nat.reduceLeDiff, behind_nf, hasFroL_rO, List.length_map]
  refine callD (f11o xs c k1 k2) ?_
  simp only [vmA, Nat.reduceEqDiff, reduceIte, Nat.reduceAdd, Nat.reduceBEq, reduceCtorEq, Nat.reduceLT, Int.reduceLE, Int.reduceLT, Int.reduceEq, Nat.reduceMul, Nat.reduceLeDiff, map_froize_rO, List.length_map]
  refine callD (h12 false) ?_
  simp only [vmA, Nat.reduceEqDiff, reduceIte, Nat.reduceAdd, Nat.reduceBEq, reduceCtorEq, Nat.reduceLT, Int.reduceLE, Int.reduceLT, Int.reduceEq, Nat.reduceMul, Nat.reduceLeDiff, behind_nf, hasFroL_rO, map_froize_rO, List.length_map]
  refine callD (f13 gs false false (by omega) q3) ?_
  simp only [vmA, Nat.reduceEqDiff, reduceIte, Nat.reduceAdd, Nat.reduceBEq, reduceCtorEq, Nat.reduceLT, Int.reduceLE, Int.reduceLT, Int.reduceEq, Nat.reduceMul, Nat.reduceLeDiff, map_froize_rO, List.length_map]
  refine callD (f11o xs c k1 k2) ?_
  simp only [vmA, Nat.reduceEqDiff, reduceIte, Nat.reduceAdd, Nat.reduceBEq, reduceCtorEq, Nat.reduceLT, Int.reduceLE, Int.reduceLT, Int.reduceEq, Nat.reduceMul, Nat.reduceLeDiff, map_froize_rO, List.length_map]
  refine callD (f13 xs false false k1 k2) ?_
  simp only [vmA, Nat.reduceEqDiff, reduceIte, Nat.reduceAdd, Nat.reduceBEq, reduceCtorEq, Nat.reduceLT, Int.reduceLE, Int.reduceLT, Int.reduceEq, Nat.reduceMul, Nat.reduceLeDiff, map_froize_rO, List.length_map]
  have hpe := pR_le xs k2 xs.length (Nat.le_refl _)
  have hpg := pR_le gs q3 gs.length (Nat.le_refl _)
  refine callR (f14 xs 1 (by omega) k2 (by omega)) ?_
  rintro _ _ ⟨rfl, rfl⟩
  have hxl := mkRs_length xs 1
  generalize mkRs xs 1 = xs2 at hxl
  simp only [vmA, Nat.reduceEqDiff, reduceIte, Nat.reduceAdd, Nat.reduceBEq, reduceCtorEq, Nat.reduceLT, Int.reduceLE, Int.reduceLT, Int.reduceEq, Nat.reduceMul, Nat.reduceLeDiff, map_froize_rO, List.length_map, hxl]
  refine ⟨fun h => absurd h (by omega), fun _ => ?_⟩
  refine callD (f13 gs false false (by omega) q3) ?_
  simp only [vmA, Nat.reduceEqDiff, reduceIte, Nat.reduceAdd, Nat.reduceBEq, reduceCtorEq, Nat.reduceLT, Int.reduceLE, Int.reduceLT, Int.reduceEq, Nat.reduceMul, Nat.reduceLeDiff, map_froize_rO, List.length_map, hxl]
  have h15 := f15 gs 1 false (by omega) q3 (by omega)
  have h14 := f14 gs 1 (by omega) q3 (by omega)
  have hzl := mkRs_length gs 1
  generalize mkRs gs 1 = zs at h15 h14 hzl
  refine callR h14 ?_
  rintro _ _ ⟨rfl, rfl⟩
  have hzt : (zs.map rO).take gs.length = zs.map rO := List.take_of_length_le (by simp; omega)
  simp only [vmA, Nat.reduceEqDiff, reduceIte, Nat.reduceAdd, Nat.reduceBEq, reduceCtorEq, Nat.reduceLT, Int.reduceLE, Int.reduceLT, Int.reduceEq, Nat.reduceMul, Nat.reduceLeDiff, map_froize_rO, List.length_map, hzl, hzt, hxl]
  refine callD h15 ?_
  simp only [vmA, Nat.reduceEqDiff, reduceIte, Nat.reduceAdd, Nat.reduceBEq, reduceCtorEq, Nat.reduceLT, Int.reduceLE, Int.reduceLT, Int.reduceEq, Nat.reduceMul, Nat.reduceLeDiff, map_froize_rO, List.length_map, hzl, hzt, hxl]
  refine ⟨fun h => absurd h (by omega), fun _ => ?_⟩
  refine callD (f11o xs c k1 k2) ?_
  simp only [vmA, Nat.reduceEqDiff, reduceIte, Nat.reduceAdd, Nat.reduceBEq, reduceCtorEq, Nat.reduceLT, Int.reduceLE, Int.reduceLT, Int.reduceEq, Nat.reduceMul, Nat.reduceLeDiff, map_froize_rO, List.length_map, hzl, hzt, hxl]
  refine callD (h12 false) ?_
  simp only [vmA, Nat.reduceEqDiff, reduceIte, Nat.reduceAdd, Nat.reduceBEq, reduceCtorEq, Nat.reduceLT, Int.reduceLE, Int.reduceLT, Int.reduceEq, Nat.reduceMul, Nat.reduceLeDiff, behind_nf, hasFroL_rO, map_froize_rO, List.length_map, hzl, hzt, hxl]
  refine callD (f13 gs false false (by omega) q3) ?_
  simp only [vmA, Nat.reduceEqDiff, reduceIte, Nat.reduceAdd, Nat.reduceBEq, reduceCtorEq, Nat.reduceLT, Int.reduceLE, Int.reduceLT, Int.reduceEq, Nat.reduceMul, Nat.reduceLeDiff, map_froize_rO, List.length_map, hzl, hzt, hxl]
  refine callD h15 ?_
  simp only [vmA, Nat.reduceEqDiff, reduceIte, Nat.reduceAdd, Nat.reduceBEq, reduceCtorEq, Nat.reduceLT, Int.reduceLE, Int.reduceLT, Int.reduceEq, Nat.reduceMul, Nat.reduceLeDiff, map_froize_rO, List.length_map, hzl, hzt, hxl]
  refine ⟨fun h => absurd h (by omega), fun _ => ?_⟩
  (refine hQ _ ?_; simp only [vmA, Nat.reduceEqDiff, reduceIte, Nat.reduceAdd, Nat.reduceBEq, reduceCtorEq, Nat.reduceLT, Int.reduceLE, Int.reduceLT, Int.reduceEq, Nat.reduceMul, Nat.reduceLeDiff, Try.f3, retG, resL, St.closeVs, St.closeV])
