/- WALK of functions of the seat, or plain laws for it: each theorem f<k> says what function k returns, for every world and all arguments that stand for the values named. Conditions: none but those ahead of each theorem. -/
import Derived.Test.YtklhdnjhgbglhaaGreatVD2
section
open Go Go.Vm Go.Proofs
set_option maxRecDepth 100000
set_option maxHeartbeats 8000000
set_option linter.unusedSimpArgs false
set_option linter.unusedVariables false
set_option maxHeartbeats 8000000
set_option linter.unusedSimpArgs false
set_option linter.unusedVariables false
def smV (v : Ver) : Prop := v.row.length ≤ 1048576
theorem f123 (v : Ver) (left : Int) (hs : okR v.row) (h0 : 0 ≤ left) (h1 : left ≤ 1048576) : FxR 123 [gA v, .int .i64 left] fun r l => (∃ n : Int, r = .int .i64 n ∧ -1 ≤ n ∧ n ≤ left ∧ (0 ≤ n → smV v)) ∧ l = .und := by
  have hb : szS szv v.row left = -1 ∨ (0 ≤ szS szv v.row left ∧ szS szv v.row left ≤ left) := szS_ok szv_ok v.row left h0
  refine fn_ofR ⟨false, [], []⟩ Tryz.func123 (by kernel_rfl) rfl (by kernel_rfl) (by kernel_rfl) (Nat.le_of_ble_eq_true rfl) rfl fun Q hQ => ?_
  simp only [vmA, Nat.reduceEqDiff, reduceIte, Nat.reduceAdd, Nat.reduceBEq, reduceCtorEq, Nat.reduceLT, Int.reduceLE, Int.reduceLT, Int.reduceEq, Nat.reduceMul, Nat.reduceLeDiff, gA]
  refine callD (f69 v.row false left hs.2 hs.1 h0 h1) ?_
  simp only [vmA, Nat.reduceEqDiff, reduceIte, Nat.reduceAdd, Nat.reduceBEq, reduceCtorEq, Nat.reduceLT, Int.reduceLE, Int.reduceLT, Int.reduceEq, Nat.reduceMul, Nat.reduceLeDiff]
  refine ⟨fun h => ?_, fun h => ?_⟩
  · (refine hQ _ ?_; simp only [vmA, Nat.reduceEqDiff, reduceIte, Nat.reduceAdd, Nat.reduceBEq, reduceCtorEq, Nat.reduceLT, Int.reduceLE, Int.reduceLT, Int.reduceEq, Nat.reduceMul, Nat.reduceLeDiff, Tryz.f123, retG, resL, St.closeVs, St.closeV])
    exact ⟨-1, rfl, by omega, by omega, by omega⟩
  · (refine hQ _ ?_; simp only [vmA, Nat.reduceEqDiff, reduceIte, Nat.reduceAdd, Nat.reduceBEq, reduceCtorEq, Nat.reduceLT, Int.reduceLE, Int.reduceLT, Int.reduceEq, Nat.reduceMul, Nat.reduceLeDiff, Tryz.f123, retG, resL, St.closeVs, St.closeV])
    refine ⟨_, rfl, by omega, by omega, fun h2 => ?_⟩
    have := (szS_mem szv_ok h2).1
    unfold smV
    omega
theorem f67 (xs : List Ver) (c : Bool) (left : Int) (hs : ∀ v ∈ xs, okR v.row) (hl : xs.length ≤ 9223372036854775807) (h0 : 0 ≤ left) (h1 : left ≤ 1048576) : FxR 67 [.fro none c (xs.map gA), .int .i64 left] fun r l => (∃ n : Int, r = .int .i64 n ∧ -1 ≤ n ∧ n ≤ left ∧ (0 ≤ n → xs.length ≤ 1048576 ∧ ∀ v ∈ xs, smV v)) ∧ l = .und := by
  refine fn_ofR ⟨false, [], []⟩ Tryz.func67 (by kernel_rfl) rfl (by kernel_rfl) (by kernel_rfl) (Nat.le_of_ble_eq_true rfl) rfl fun Q hQ => ?_
  simp only [vmA, Nat.reduceEqDiff, reduceIte, Nat.reduceAdd, Nat.reduceBEq, reduceCtorEq, Nat.reduceLT, Int.reduceLE, Int.reduceLT, Int.reduceEq, Nat.reduceMul, Nat.reduceLeDiff, List.length_map]
  rw [wr (by omega)]
  refine ⟨fun h => ?_, fun h => ?_⟩
  · (refine hQ _ ?_; simp only [vmA, Nat.reduceEqDiff, reduceIte, Nat.reduceAdd, Nat.reduceBEq, reduceCtorEq, Nat.reduceLT, Int.reduceLE, Int.reduceLT, Int.reduceEq, Nat.reduceMul, Nat.reduceLeDiff, Tryz.f67, retG, resL, St.closeVs, St.closeV])
    exact ⟨-1, rfl, by omega, by omega, by omega⟩
  refine WT_loop (fun (zz : Nat × Int) σ => ((zz.1 ≤ xs.length ∧ 0 ≤ zz.2 ∧ zz.2 ≤ left) ∧ (∀ j, j < zz.1 → smV xs[j]!)) ∧ σ.sl 5 = .int .i64 zz.1 ∧ σ.sl 1 = .int .i64 zz.2 ∧ σ.sl 0 = .fro none c (xs.map gA)) (fun zz => xs.length - zz.1) ((0, left - xs.length)) ⟨⟨⟨by dsimp only; omega, by dsimp only; omega, by dsimp only; omega⟩, by intro j hj; exact absurd hj (Nat.not_lt_zero _)⟩, by simp [vmI], by simp [vmI], by simp [vmI]⟩ ?_
  rintro ⟨i, n⟩ σ ⟨hi, e5, e1, e0⟩
  try dsimp only at e5 e1 e0 hi
  obtain ⟨⟨hi, hn0, hn1⟩, hall⟩ := hi
  simp only [vmA, Nat.reduceEqDiff, reduceIte, Nat.reduceAdd, Nat.reduceBEq, reduceCtorEq, Nat.reduceLT, Int.reduceLE, Int.reduceLT, Int.reduceEq, Nat.reduceMul, Nat.reduceLeDiff, e5, e1, e0, gA, List.length_map]
  refine ⟨fun hlt => ⟨hlt, by omega, ?_⟩, fun hge => ?_⟩
  · refine callR (f123 xs[i]! n (hs _ (by rw [getElem!_pos xs i (by omega)]; exact List.getElem_mem _)) hn0 (by omega)) ?_
    rintro _ _ ⟨⟨m, rfl, hm0, hm1, hm⟩, rfl⟩
    simp only [vmA, Nat.reduceEqDiff, reduceIte, Nat.reduceAdd, Nat.reduceBEq, reduceCtorEq, Nat.reduceLT, Int.reduceLE, Int.reduceLT, Int.reduceEq, Nat.reduceMul, Nat.reduceLeDiff, e5, e1, e0, gA, List.length_map]
    refine ⟨fun hneg => ?_, fun hpos => ?_⟩
    · (refine hQ _ ?_; simp only [vmA, Nat.reduceEqDiff, reduceIte, Nat.reduceAdd, Nat.reduceBEq, reduceCtorEq, Nat.reduceLT, Int.reduceLE, Int.reduceLT, Int.reduceEq, Nat.reduceMul, Nat.reduceLeDiff, Tryz.f67, retG, resL, St.closeVs, St.closeV, e5, e1, e0])
      exact ⟨-1, rfl, by omega, by omega, by omega⟩
    · rw [wr (by omega)]
      refine ⟨(i + 1, m), ⟨⟨⟨by dsimp only; omega, by dsimp only; omega, by dsimp only; omega⟩, fun j hj => ?_⟩, rfl, rfl⟩, by dsimp only; omega⟩
      rcases Nat.lt_or_eq_of_le (Nat.le_of_lt_succ hj) with h2 | rfl
      · exact hall j h2
      · exact hm (by omega)
  · (refine hQ _ ?_; simp only [vmA, Nat.reduceEqDiff, reduceIte, Nat.reduceAdd, Nat.reduceBEq, reduceCtorEq, Nat.reduceLT, Int.reduceLE, Int.reduceLT, Int.reduceEq, Nat.reduceMul, Nat.reduceLeDiff, Tryz.f67, retG, resL, St.closeVs, St.closeV, e5, e1, e0])
    refine ⟨n, rfl, by omega, by omega, fun _ => ⟨by omega, fun v hv => ?_⟩⟩
    obtain ⟨j, hj, rfl⟩ := List.mem_iff_getElem.1 hv
    have := hall j (by omega)
    rwa [getElem!_pos xs j hj] at this
theorem f134 (v : Ver) (hl : smV v) : Fx 134 [gA v] (gO v) := by
  refine fn_of true Tryz.func134 (by kernel_rfl) rfl (by kernel_rfl) (by kernel_rfl) (Nat.le_of_ble_eq_true rfl) rfl fun Q hQ => ?_
  simp only [vmA, Nat.reduceEqDiff, reduceIte, Nat.reduceAdd, Nat.reduceBEq, reduceCtorEq, Nat.reduceLT, Int.reduceLE, Int.reduceLT, Int.reduceEq, Nat.reduceMul, Nat.reduceLeDiff, gA, Option.bind_none]
  refine callD (f74 v.row false hl) ?_
  simp only [vmA, Nat.reduceEqDiff, reduceIte, Nat.reduceAdd, Nat.reduceBEq, reduceCtorEq, Nat.reduceLT, Int.reduceLE, Int.reduceLT, Int.reduceEq, Nat.reduceMul, Nat.reduceLeDiff, Option.bind_none]
  (refine hQ _ ?_; simp only [vmA, Nat.reduceEqDiff, reduceIte, Nat.reduceAdd, Nat.reduceBEq, reduceCtorEq, Nat.reduceLT, Int.reduceLE, Int.reduceLT, Int.reduceEq, Nat.reduceMul, Nat.reduceLeDiff, Tryz.f134, retG, resL, St.closeVs, St.closeV, Option.bind_none])
  rfl
theorem f72 (xs : List Ver) (c : Bool) (hl : xs.length ≤ 1048576) (hs : ∀ v ∈ xs, smV v) : Fx 72 [.fro none c (xs.map gA)] (.own 4 (xs.map gO)) := by
  refine fn_of false Tryz.func72 (by kernel_rfl) rfl (by kernel_rfl) (by kernel_rfl) (Nat.le_of_ble_eq_true rfl) rfl fun Q hQ => ?_
  simp only [vmA, Nat.reduceEqDiff, reduceIte, Nat.reduceAdd, Nat.reduceBEq, reduceCtorEq, Nat.reduceLT, Int.reduceLE, Int.reduceLT, Int.reduceEq, Nat.reduceMul, Nat.reduceLeDiff]
  refine ⟨by omega, WT_loop (fun (i : Nat) σ => i ≤ xs.length ∧ σ.sl 0 = .fro none c (xs.map gA) ∧ σ.sl 4 = .int .i64 i ∧ σ.sl 3 = .hd 448 1 0 xs.length true ∧ (σ.en 448).live = true ∧ (σ.en 448).gen = 1 ∧ (σ.en 448).frz = false ∧ (σ.en 448).sz = 4 ∧ (σ.en 448).elems = upL gO (.agg [.int .i64 0, .int .i64 0, .int .i64 0, .fro none true []]) xs i) (fun i => xs.length - i) 0 ?_ ?_⟩
  · simp [vmI, upL_zero]
  rintro i σ ⟨hi, e0, e4, e3, l1, l2, l3, l4, l5⟩
  simp only [vmA, Nat.reduceEqDiff, reduceIte, Nat.reduceAdd, Nat.reduceBEq, reduceCtorEq, Nat.reduceLT, Int.reduceLE, Int.reduceLT, Int.reduceEq, Nat.reduceMul, Nat.reduceLeDiff, e0, e4, e3, gO, gA, l1, l2, l3, l4, l5, upL_length gO _ xs hi]
  refine ⟨fun hlt => ?_, fun hge => ?_⟩
  · refine ⟨hlt, by omega, callD (f134 xs[i]! (hs _ (by rw [getElem!_pos xs i (by omega)]; exact List.getElem_mem _))) ?_⟩
    simp only [vmA, Nat.reduceEqDiff, reduceIte, Nat.reduceAdd, Nat.reduceBEq, reduceCtorEq, Nat.reduceLT, Int.reduceLE, Int.reduceLT, Int.reduceEq, Nat.reduceMul, Nat.reduceLeDiff, e0, e4, e3, gO, gA, l1, l2, l3, l4, l5, upL_length gO _ xs hi, upL_get gO _ xs (show i < xs.length by omega), Nat.le_refl]
    refine ⟨hlt, i + 1, ⟨by omega, by rw [wr (by omega)]; rfl, ?_⟩, by omega⟩
    exact upL_set gO _ xs (by omega)
  · obtain rfl : i = xs.length := by omega
    (refine hQ _ ?_; simp only [vmA, Nat.reduceEqDiff, reduceIte, Nat.reduceAdd, Nat.reduceBEq, reduceCtorEq, Nat.reduceLT, Int.reduceLE, Int.reduceLT, Int.reduceEq, Nat.reduceMul, Nat.reduceLeDiff, Tryz.f72, retG, resL, St.closeVs, St.closeV, l1, l2, l3, l4, l5, upL_full, Nat.le_refl, List.take_length])
theorem f137 (v : Ver) (hl : smV v) : Fx 137 [gA v, gA v] (.bool true) := by
  refine fn_of ⟨false, [], []⟩ Tryz.func137 (by kernel_rfl) rfl (by kernel_rfl) (by kernel_rfl) (Nat.le_of_ble_eq_true rfl) rfl fun Q hQ => ?_
  simp only [vmA, Nat.reduceEqDiff, reduceIte, Nat.reduceAdd, Nat.reduceBEq, reduceCtorEq, Nat.reduceLT, Int.reduceLE, Int.reduceLT, Int.reduceEq, Nat.reduceMul, Nat.reduceLeDiff, gA]
  refine callD (f78 v.row false false hl) ?_
  simp only [vmA, Nat.reduceEqDiff, reduceIte, Nat.reduceAdd, Nat.reduceBEq, reduceCtorEq, Nat.reduceLT, Int.reduceLE, Int.reduceLT, Int.reduceEq, Nat.reduceMul, Nat.reduceLeDiff, gA]
  (refine hQ _ ?_; simp only [vmA, Nat.reduceEqDiff, reduceIte, Nat.reduceAdd, Nat.reduceBEq, reduceCtorEq, Nat.reduceLT, Int.reduceLE, Int.reduceLT, Int.reduceEq, Nat.reduceMul, Nat.reduceLeDiff, Tryz.f137, retG, resL, St.closeVs, St.closeV])
theorem f76 (xs : List Ver) (c c2 : Bool) (hl : xs.length ≤ 1048576) (hs : ∀ v ∈ xs, smV v) : Fx 76 [.fro none c (xs.map gA), .fro none c2 (xs.map gA)] (.bool true) := by
  refine fn_of ⟨false, [], []⟩ Tryz.func76 (by kernel_rfl) rfl (by kernel_rfl) (by kernel_rfl) (Nat.le_of_ble_eq_true rfl) rfl fun Q hQ => ?_
  simp only [vmA, Nat.reduceEqDiff, reduceIte, Nat.reduceAdd, Nat.reduceBEq, reduceCtorEq, Nat.reduceLT, Int.reduceLE, Int.reduceLT, Int.reduceEq, Nat.reduceMul, Nat.reduceLeDiff, List.length_map]
  refine WT_loop (fun (i : Nat) σ => (i ≤ xs.length) ∧ σ.sl 5 = .int .i64 i ∧ σ.sl 0 = .fro none c (xs.map gA) ∧ σ.sl 1 = .fro none c2 (xs.map gA)) (fun i => xs.length - i) (0) ⟨Nat.zero_le _, by simp [vmI], by simp [vmI], by simp [vmI]⟩ ?_
  rintro i σ ⟨hi, e5, e0, e1⟩
  simp only [vmA, Nat.reduceEqDiff, reduceIte, Nat.reduceAdd, Nat.reduceBEq, reduceCtorEq, Nat.reduceLT, Int.reduceLE, Int.reduceLT, Int.reduceEq, Nat.reduceMul, Nat.reduceLeDiff, e5, e0, e1, gA, List.length_map]
  refine ⟨fun h => ⟨h, by omega, h, by omega, callD (f137 xs[i]! (hs _ (by rw [getElem!_pos xs i (by omega)]; exact List.getElem_mem _))) ?_⟩, fun h => ?_⟩
  · simp only [vmA, Nat.reduceEqDiff, reduceIte, Nat.reduceAdd, Nat.reduceBEq, reduceCtorEq, Nat.reduceLT, Int.reduceLE, Int.reduceLT, Int.reduceEq, Nat.reduceMul, Nat.reduceLeDiff, e5, e0, e1, gA, List.length_map]
    rw [wr (by omega)]
    exact ⟨i + 1, ⟨by omega, rfl⟩, by omega⟩
  · (refine hQ _ ?_; simp only [vmA, Nat.reduceEqDiff, reduceIte, Nat.reduceAdd, Nat.reduceBEq, reduceCtorEq, Nat.reduceLT, Int.reduceLE, Int.reduceLT, Int.reduceEq, Nat.reduceMul, Nat.reduceLeDiff, Tryz.f76, retG, resL, St.closeVs, St.closeV])
end
section
open Go Go.Vm Go.Proofs
set_option maxRecDepth 100000
set_option maxHeartbeats 8000000
set_option linter.unusedSimpArgs false
set_option linter.unusedVariables false
set_option maxHeartbeats 8000000
set_option linter.unusedSimpArgs false
set_option linter.unusedVariables false
theorem set_gO (ws : List Ver) (i : Nat) (a b d : Int) (r : List Val) : (ws.map gO).set i (.agg [.int .i64 a, .int .i64 b, .int .i64 d, .own 3 (r.map vA)]) = (ws.set i ⟨a, b, d, r⟩).map gO := by rw [List.map_set]; rfl
theorem mod_gO (ws : List Ver) (i : Nat) (r : List Val) (h : i < ws.length) : (ws.map gO).modify i (fun x => reEl x ((leaves x).set 3 (.own 3 (r.map vA)))) = (ws.set i ⟨ws[i]!.key, ws[i]!.born, ws[i]!.died, r⟩).map gO := by
  have hl : i < (ws.map gO).length := by simpa using h
  rw [List.map_set, List.modify_eq_take_cons_drop hl]
  conv => rhs; rw [List.set_eq_take_append_cons_drop, if_pos hl]
  rw [List.getElem_map, getElem!_pos ws i h]
  rfl
theorem f79 (ws : List Ver) (k : Int) (hk : 0 ≤ k) (hr : ∀ w ∈ ws, smV w) (hl : k + 3145731 * ws.length ≤ 4611686018427387904) : FxR 79 [.own 4 (ws.map gO), .int .i64 k] fun r l => ∃ (k' : Int) (ys : List Ver), r = .int .i64 k' ∧ k ≤ k' ∧ k' ≤ k + 3145731 * ws.length ∧ l = .own 4 (ys.map gO) ∧ ys.length = ws.length := by
  refine fn_ofW false (k := 0) Tryz.func79 (by kernel_rfl) rfl (by kernel_rfl) (by kernel_rfl) (Nat.le_of_ble_eq_true rfl) rfl ⟨_, _, .inl rfl⟩ rfl fun Q hQ => ?_
  simp only [vmA, Nat.reduceEqDiff, reduceIte, Nat.reduceAdd, Nat.reduceBEq, reduceCtorEq, Nat.reduceLT, Int.reduceLE, Int.reduceLT, Int.reduceEq, Nat.reduceMul, Nat.reduceLeDiff, List.length_map]
  refine WT_loop (fun (p : Nat × List Ver × Int) σ => (p.1 ≤ ws.length ∧ p.2.1.length = ws.length ∧ (∀ w ∈ p.2.1, smV w) ∧ k ≤ p.2.2 ∧ p.2.2 ≤ k + 3145731 * p.1) ∧ σ.sl 0 = .hd 0 1 0 ws.length false ∧ (σ.en 0).live = true ∧ (σ.en 0).gen = 1 ∧ (σ.en 0).frz = false ∧ (σ.en 0).sz = 4 ∧ (σ.en 0).elems = p.2.1.map gO ∧ σ.sl 1 = .int .i64 p.2.2 ∧ σ.sl 5 = .int .i64 p.1) (fun p => ws.length - p.1) (0, ws, k) ⟨⟨by simp, rfl, hr, by simp, by simp⟩, by simp [vmI], by simp [vmI], by simp [vmI], by simp [vmI], by simp [vmI], by simp [vmI], by simp [vmI], by simp [vmI]⟩ ?_
  rintro ⟨i, ys, m⟩ σ ⟨⟨hi, hyl, hyr, hm0, hm1⟩, e0, l1, l2, l3, l4, l5, e1, e5⟩
  dsimp only at hi hyl hyr hm0 hm1 l5 e1 e5
  simp only [vmA, Nat.reduceEqDiff, reduceIte, Nat.reduceAdd, Nat.reduceBEq, reduceCtorEq, Nat.reduceLT, Int.reduceLE, Int.reduceLT, Int.reduceEq, Nat.reduceMul, Nat.reduceLeDiff, e0, l1, l2, l3, l4, l5, e1, e5, List.length_map, hyl, gO, set_gO, List.length_set]
  refine ⟨fun hlt => ?_, fun hge => ?_⟩
  · refine ⟨hlt, by omega, hlt, by omega, hlt, by omega, hlt, by omega, ?_⟩
    simp (disch := first | omega | (simp; omega)) only [get_set, List.set_set, wr]
    have hyi : ys[i]!.row.length ≤ 1048576 := by rw [getElem!_pos ys i (by omega)]; exact hyr _ (List.getElem_mem _)
    refine ⟨by omega, ?_⟩
    refine callR (f81 ys[i]!.row (m + 1 + 1 + 1) (by omega) (by omega)) ?_
    rintro _ _ ⟨k', r, rfl, hk0, hk1, rfl, hrl⟩
    have hm := mod_gO (ys.set i ⟨m, m + 1, m + 1 + 1, ys[i]!.row⟩) i r (by simp; omega)
    rw [get_set ys i _ (by omega), List.set_set] at hm
    simp only [vmA, Nat.reduceEqDiff, reduceIte, Nat.reduceAdd, Nat.reduceBEq, reduceCtorEq, Nat.reduceLT, Int.reduceLE, Int.reduceLT, Int.reduceEq, Nat.reduceMul, Nat.reduceLeDiff, e0, l1, l2, l3, l4, l5, e1, e5, List.length_map, hyl, hm, gO, set_gO, List.length_set]
    simp (disch := first | omega | (simp; omega)) only [get_set, List.set_set, wr, hm]
    refine ⟨(i + 1, ys.set i ⟨m, m + 1, m + 1 + 1, r⟩, k'), ⟨⟨by dsimp only; omega, by dsimp only; simp [hyl], fun w hw => ?_, by dsimp only; omega, by dsimp only; omega⟩, rfl, leafJ (by dsimp only), rfl⟩, by dsimp only; omega⟩
    dsimp only at hw
    rcases List.mem_or_eq_of_mem_set hw with h | h
    · exact hyr _ h
    · rw [h]; show List.length _ ≤ _; dsimp only; omega
  · (refine hQ _ ?_; simp only [vmA, Nat.reduceEqDiff, reduceIte, Nat.reduceAdd, Nat.reduceBEq, reduceCtorEq, Nat.reduceLT, Int.reduceLE, Int.reduceLT, Int.reduceEq, Nat.reduceMul, Nat.reduceLeDiff, Tryz.f79, retG, resL, St.closeVs, St.closeV, leftV, ghostW, e0, l1, l2, l3, l4, l5, e1, e5, List.length_map, hyl])
    refine ⟨m, ys, rfl, hm0, by omega, ?_, hyl⟩
    rw [List.take_of_length_le (by simp; omega)]
end
