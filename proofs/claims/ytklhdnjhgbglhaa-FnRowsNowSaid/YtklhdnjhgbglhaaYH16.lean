/- WALK of functions of the seat, or plain laws for it: each theorem f<k> says what function k returns, for every world and all arguments that stand for the values named. Conditions: none but those ahead of each theorem. -/
import Derived.Test.YtklhdnjhgbglhaaYH15
import Derived.Test.YtklhdnjhgbglhaaYP3
import Derived.Test.YtklhdnjhgbglhaaYB1
open Go Go.Vm Go.Proofs
set_option maxRecDepth 100000
set_option maxHeartbeats 16000000
set_option linter.unusedSimpArgs false
set_option linter.unusedVariables false
theorem nowS_len2 (h : Hs) : (nowS h).length ≤ 5 := by
  unfold nowS
  split
  · exact rowsN_len _ _ _
  · simp
theorem nowS_row2 {h : Hs} (hs : okH h) : ∀ w ∈ nowS h, w.length ≤ 1048576 := by
  intro w hw
  unfold nowS at hw
  split at hw
  · obtain ⟨v, hv, rfl⟩ := rowsN_mem hw
    exact hs.len v hv
  · simp at hw
theorem hasFroL_rO2 (rs : List (List Val)) : hasFro.hasFroL (rs.map rO) = false := by
  induction rs with
  | nil => rfl
  | cons w ws ih => simp only [List.map_cons, hasFro.hasFroL, ih, Bool.or_false, rO, hasFro, hasFroL_vA]
theorem f3 (xs : List UInt8) (hl : xs.length ≤ 9223372036854775807) : Fx 3 [.fro none false (xs.map bA)] (.bool true) := by
  refine fn_of ⟨true, [], []⟩ Try.func3 (by kernel_rfl) rfl (by kernel_rfl) (by kernel_rfl) (Nat.le_of_ble_eq_true rfl) rfl fun Q hQ => ?_
  simp only [vmA, Nat.reduceEqDiff, reduceIte, Nat.reduceAdd, Nat.reduceBEq, reduceCtorEq, Nat.reduceLT, Int.reduceLE, Int.reduceLT, Int.reduceEq, Nat.reduceMul, Nat.reduceLeDiff, List.length_map]
  refine ⟨fun h => ?_, fun h => callR (f5 xs hl) ?_⟩
  · (refine hQ _ ?_; simp only [vmA, Nat.reduceEqDiff, reduceIte, Nat.reduceAdd, Nat.reduceBEq, reduceCtorEq, Nat.reduceLT, Int.reduceLE, Int.reduceLT, Int.reduceEq, Nat.reduceMul, Nat.reduceLeDiff, Try.f3, retG, resL, St.closeVs, St.closeV])
  rintro _ _ ⟨h, rfl, ho, rfl⟩
  have hln := nowS_len2 h
  have hrw := nowS_row2 ho
  simp only [vmA, Nat.reduceEqDiff, reduceIte, Nat.reduceAdd, Nat.reduceBEq, reduceCtorEq, Nat.reduceLT, Int.reduceLE, Int.reduceLT, Int.reduceEq, Nat.reduceMul, Nat.reduceLeDiff, hA, Option.bind_none, List.length_map]
  refine callD (f6 h ho) ?_
  simp only [vmA, Nat.reduceEqDiff, reduceIte, Nat.reduceAdd, Nat.reduceBEq, reduceCtorEq, Nat.reduceLT, Int.reduceLE, Int.reduceLT, Int.reduceEq, Nat.reduceMul, Nat.reduceLeDiff, hA, Option.bind_none, List.length_map, behind_nf, hasFro, hasFroL_rO2, map_froize_rO]
  refine callD (f8 h ho) ?_
  simp only [vmA, Nat.reduceEqDiff, reduceIte, Nat.reduceAdd, Nat.reduceBEq, reduceCtorEq, Nat.reduceLT, Int.reduceLE, Int.reduceLT, Int.reduceEq, Nat.reduceMul, Nat.reduceLeDiff, hA, Option.bind_none, List.length_map, behind_nf, hasFro, hasFroL_rO2, map_froize_rO]
  refine callD (f7 (nowS h) false false (by omega) hrw) ?_
  simp only [vmA, Nat.reduceEqDiff, reduceIte, Nat.reduceAdd, Nat.reduceBEq, reduceCtorEq, Nat.reduceLT, Int.reduceLE, Int.reduceLT, Int.reduceEq, Nat.reduceMul, Nat.reduceLeDiff, hA, Option.bind_none, List.length_map, behind_nf, hasFro, hasFroL_rO2, map_froize_rO]
  refine callD (f9 h ho) ?_
  simp only [vmA, Nat.reduceEqDiff, reduceIte, Nat.reduceAdd, Nat.reduceBEq, reduceCtorEq, Nat.reduceLT, Int.reduceLE, Int.reduceLT, Int.reduceEq, Nat.reduceMul, Nat.reduceLeDiff, hA, Option.bind_none, List.length_map, behind_nf, hasFro, hasFroL_rO2, map_froize_rO]
  have h11 : houseP h → Fx 11 [.fro none false (h.vs.map gA), .int .i64 h.ck] (.own 1 ((nowS h).map rO)) := fun hp => now_at hp ▸ f11 h.vs false h.ck ho.n ho.row ho.len
  have h11b : houseP h → Fx 11 [.fro none false (h.vs.map gA), .int .i64 (h.ck + 1)] (.own 1 ((nowS h).map rO)) := fun hp => now_later hp ▸ f11 h.vs false (h.ck + 1) ho.n ho.row ho.len
  refine ⟨fun hp => ⟨fun h0 => callD f10 ?_, fun h0 => absurd (by rw [now_none hp]; rfl) h0⟩, fun hp => callD (h11 hp) ?_⟩
  · simp only [vmA, Nat.reduceEqDiff, reduceIte, Nat.reduceAdd, Nat.reduceBEq, reduceCtorEq, Nat.reduceLT, Int.reduceLE, Int.reduceLT, Int.reduceEq, Nat.reduceMul, Nat.reduceLeDiff, hA, Option.bind_none, List.length_map, behind_nf, hasFro, hasFroL_rO2, map_froize_rO]
    (refine hQ _ ?_; simp only [vmA, Nat.reduceEqDiff, reduceIte, Nat.reduceAdd, Nat.reduceBEq, reduceCtorEq, Nat.reduceLT, Int.reduceLE, Int.reduceLT, Int.reduceEq, Nat.reduceMul, Nat.reduceLeDiff, Try.f3, retG, resL, St.closeVs, St.closeV, hA, Option.bind_none])
  have hck := hp.2.1
  simp only [vmA, Nat.reduceEqDiff, reduceIte, Nat.reduceAdd, Nat.reduceBEq, reduceCtorEq, Nat.reduceLT, Int.reduceLE, Int.reduceLT, Int.reduceEq, Nat.reduceMul, Nat.reduceLeDiff, hA, Option.bind_none, List.length_map, behind_nf, hasFro, hasFroL_rO2, map_froize_rO]
  refine callD (f7 (nowS h) false false (by omega) hrw) ?_
  simp only [vmA, Nat.reduceEqDiff, reduceIte, Nat.reduceAdd, Nat.reduceBEq, reduceCtorEq, Nat.reduceLT, Int.reduceLE, Int.reduceLT, Int.reduceEq, Nat.reduceMul, Nat.reduceLeDiff, hA, Option.bind_none, List.length_map, behind_nf, hasFro, hasFroL_rO2, map_froize_rO]
  rw [wr (by omega)]
  refine callD (h11b hp) ?_
  simp only [vmA, Nat.reduceEqDiff, reduceIte, Nat.reduceAdd, Nat.reduceBEq, reduceCtorEq, Nat.reduceLT, Int.reduceLE, Int.reduceLT, Int.reduceEq, Nat.reduceMul, Nat.reduceLeDiff, hA, Option.bind_none, List.length_map, behind_nf, hasFro, hasFroL_rO2, map_froize_rO]
  refine callD (f7 (nowS h) false false (by omega) hrw) ?_
  simp only [vmA, Nat.reduceEqDiff, reduceIte, Nat.reduceAdd, Nat.reduceBEq, reduceCtorEq, Nat.reduceLT, Int.reduceLE, Int.reduceLT, Int.reduceEq, Nat.reduceMul, Nat.reduceLeDiff, hA, Option.bind_none, List.length_map, behind_nf, hasFro, hasFroL_rO2, map_froize_rO]
  refine callD f10 ?_
  simp only [vmA, Nat.reduceEqDiff, reduceIte, Nat.reduceAdd, Nat.reduceBEq, reduceCtorEq, Nat.reduceLT, Int.reduceLE, Int.reduceLT, Int.reduceEq, Nat.reduceMul, Nat.reduceLeDiff, hA, Option.bind_none, List.length_map, behind_nf, hasFro, hasFroL_rO2, map_froize_rO]
  (refine hQ _ ?_; simp only [vmA, Nat.reduceEqDiff, reduceIte, Nat.reduceAdd, Nat.reduceBEq, reduceCtorEq, Nat.reduceLT, Int.reduceLE, Int.reduceLT, Int.reduceEq, Nat.reduceMul, Nat.reduceLeDiff, Try.f3, retG, resL, St.closeVs, St.closeV, hA, Option.bind_none])
