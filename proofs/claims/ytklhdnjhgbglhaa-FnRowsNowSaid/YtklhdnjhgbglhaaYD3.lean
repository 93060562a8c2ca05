/- WALK of functions of the seat, or plain laws for it: each theorem f<k> says what function k returns, for every world and all arguments that stand for the values named. Conditions: none but those ahead of each theorem. -/
import Derived.Test.YtklhdnjhgbglhaaYD2
open Go Go.Vm Go.Proofs
set_option maxRecDepth 100000
set_option maxHeartbeats 8000000
set_option linter.unusedSimpArgs false
set_option linter.unusedVariables false
def smV (v : Ver) : Prop := v.row.length ≤ 1048576
theorem f60 (v : Ver) (left : Int) (hs : okR v.row) (h0 : 0 ≤ left) (h1 : left ≤ 1048576) : FxR 60 [gA v, .int .i64 left] fun r l => (∃ n : Int, r = .int .i64 n ∧ -1 ≤ n ∧ n ≤ left ∧ (0 ≤ n → smV v)) ∧ l = .und := by
  have hb : szS szv v.row left = -1 ∨ (0 ≤ szS szv v.row left ∧ szS szv v.row left ≤ left) := szS_ok szv_ok v.row left h0
  refine fn_ofR ⟨false, [], []⟩ Try.func60 (by kernel_rfl) rfl (by kernel_rfl) (by kernel_rfl) (Nat.le_of_ble_eq_true rfl) rfl fun Q hQ => ?_
  simp only [vmA, Nat.reduceEqDiff, reduceIte, Nat.reduceAdd, Nat.reduceBEq, reduceCtorEq, Nat.reduceLT, Int.reduceLE, Int.reduceLT, Int.reduceEq, Nat.reduceMul, Nat.reduceLeDiff, gA]
  refine callD (f82 v.row false left hs.2 hs.1 h0 h1) ?_
  simp only [vmA, Nat.reduceEqDiff, reduceIte, Nat.reduceAdd, Nat.reduceBEq, reduceCtorEq, Nat.reduceLT, Int.reduceLE, Int.reduceLT, Int.reduceEq, Nat.reduceMul, Nat.reduceLeDiff]
  refine ⟨fun h => ?_, fun h => ?_⟩
  · (refine hQ _ ?_; simp only [vmA, Nat.reduceEqDiff, reduceIte, Nat.reduceAdd, Nat.reduceBEq, reduceCtorEq, Nat.reduceLT, Int.reduceLE, Int.reduceLT, Int.reduceEq, Nat.reduceMul, Nat.reduceLeDiff, Try.f60, retG, resL, St.closeVs, St.closeV])
    exact ⟨-1, rfl, by omega, by omega, by omega⟩
  · (refine hQ _ ?_; simp only [vmA, Nat.reduceEqDiff, reduceIte, Nat.reduceAdd, Nat.reduceBEq, reduceCtorEq, Nat.reduceLT, Int.reduceLE, Int.reduceLT, Int.reduceEq, Nat.reduceMul, Nat.reduceLeDiff, Try.f60, retG, resL, St.closeVs, St.closeV])
    refine ⟨_, rfl, by omega, by omega, fun h2 => ?_⟩
    have := (szS_mem szv_ok h2).1
    unfold smV
    omega
theorem f31 (xs : List Ver) (c : Bool) (left : Int) (hs : ∀ v ∈ xs, okR v.row) (hl : xs.length ≤ 9223372036854775807) (h0 : 0 ≤ left) (h1 : left ≤ 1048576) : FxR 31 [.fro none c (xs.map gA), .int .i64 left] fun r l => (∃ n : Int, r = .int .i64 n ∧ -1 ≤ n ∧ n ≤ left ∧ (0 ≤ n → xs.length ≤ 1048576 ∧ ∀ v ∈ xs, smV v)) ∧ l = .und := by
  refine fn_ofR ⟨false, [], []⟩ Try.func31 (by kernel_rfl) rfl (by kernel_rfl) (by kernel_rfl) (Nat.le_of_ble_eq_true rfl) rfl fun Q hQ => ?_
  simp only [vmA, Nat.reduceEqDiff, reduceIte, Nat.reduceAdd, Nat.reduceBEq, reduceCtorEq, Nat.reduceLT, Int.reduceLE, Int.reduceLT, Int.reduceEq, Nat.reduceMul, Nat.reduceLeDiff, List.length_map]
  rw [wr (by omega)]
  refine ⟨fun h => ?_, fun h => ?_⟩
  · (refine hQ _ ?_; simp only [vmA, Nat.reduceEqDiff, reduceIte, Nat.reduceAdd, Nat.reduceBEq, reduceCtorEq, Nat.reduceLT, Int.reduceLE, Int.reduceLT, Int.reduceEq, Nat.reduceMul, Nat.reduceLeDiff, Try.f31, retG, resL, St.closeVs, St.closeV])
    exact ⟨-1, rfl, by omega, by omega, by omega⟩
  refine WT_loop (fun (zz : Nat × Int) σ => ((zz.1 ≤ xs.length ∧ 0 ≤ zz.2 ∧ zz.2 ≤ left) ∧ (∀ j, j < zz.1 → smV xs[j]!)) ∧ σ.sl 5 = .int .i64 zz.1 ∧ σ.sl 1 = .int .i64 zz.2 ∧ σ.sl 0 = .fro none c (xs.map gA)) (fun zz => xs.length - zz.1) ((0, left - xs.length)) ⟨⟨⟨by dsimp only; omega, by dsimp only; omega, by dsimp only; omega⟩, by intro j hj; exact absurd hj (Nat.not_lt_zero _)⟩, by simp [put_sl, put_en, put_none, init_sl, fresh_sl, fresh_en, ent_sl, ent_en, init_en], by simp [put_sl, put_en, put_none, init_sl, fresh_sl, fresh_en, ent_sl, ent_en, init_en], by simp [put_sl, put_en, put_none, init_sl, fresh_sl, fresh_en, ent_sl, ent_en, init_en]⟩ ?_
  rintro ⟨i, n⟩ σ ⟨hi, e5, e1, e0⟩
  try dsimp only at e5 e1 e0 hi
  obtain ⟨⟨hi, hn0, hn1⟩, hall⟩ := hi
  simp only [vmA, Nat.reduceEqDiff, reduceIte, Nat.reduceAdd, Nat.reduceBEq, reduceCtorEq, Nat.reduceLT, Int.reduceLE, Int.reduceLT, Int.reduceEq, Nat.reduceMul, Nat.reduceLeDiff, e5, e1, e0, gA, List.length_map]
  refine ⟨fun hlt => ⟨hlt, by omega, ?_⟩, fun hge => ?_⟩
  · refine callR (f60 xs[i]! n (hs _ (by rw [getElem!_pos xs i (by omega)]; exact List.getElem_mem _)) hn0 (by omega)) ?_
    rintro _ _ ⟨⟨m, rfl, hm0, hm1, hm⟩, rfl⟩
    simp only [vmA, Nat.reduceEqDiff, reduceIte, Nat.reduceAdd, Nat.reduceBEq, reduceCtorEq, Nat.reduceLT, Int.reduceLE, Int.reduceLT, Int.reduceEq, Nat.reduceMul, Nat.reduceLeDiff, e5, e1, e0, gA, List.length_map]
    refine ⟨fun hneg => ?_, fun hpos => ?_⟩
    · (refine hQ _ ?_; simp only [vmA, Nat.reduceEqDiff, reduceIte, Nat.reduceAdd, Nat.reduceBEq, reduceCtorEq, Nat.reduceLT, Int.reduceLE, Int.reduceLT, Int.reduceEq, Nat.reduceMul, Nat.reduceLeDiff, Try.f31, retG, resL, St.closeVs, St.closeV, e5, e1, e0])
      exact ⟨-1, rfl, by omega, by omega, by omega⟩
    · rw [wr (by omega)]
      refine ⟨(i + 1, m), ⟨⟨⟨by dsimp only; omega, by dsimp only; omega, by dsimp only; omega⟩, fun j hj => ?_⟩, rfl, rfl⟩, by dsimp only; omega⟩
      rcases Nat.lt_or_eq_of_le (Nat.le_of_lt_succ hj) with h2 | rfl
      · exact hall j h2
      · exact hm (by omega)
  · (refine hQ _ ?_; simp only [vmA, Nat.reduceEqDiff, reduceIte, Nat.reduceAdd, Nat.reduceBEq, reduceCtorEq, Nat.reduceLT, Int.reduceLE, Int.reduceLT, Int.reduceEq, Nat.reduceMul, Nat.reduceLeDiff, Try.f31, retG, resL, St.closeVs, St.closeV, e5, e1, e0])
    refine ⟨n, rfl, by omega, by omega, fun _ => ⟨by omega, fun v hv => ?_⟩⟩
    obtain ⟨j, hj, rfl⟩ := List.mem_iff_getElem.1 hv
    have := hall j (by omega)
    rwa [getElem!_pos xs j hj] at this
theorem f62 (v : Ver) (hl : smV v) : Fx 62 [gA v] (gO v) := by
  refine fn_of true Try.func62 (by kernel_rfl) rfl (by kernel_rfl) (by kernel_rfl) (Nat.le_of_ble_eq_true rfl) rfl fun Q hQ => ?_
  simp only [vmA, Nat.reduceEqDiff, reduceIte, Nat.reduceAdd, Nat.reduceBEq, reduceCtorEq, Nat.reduceLT, Int.reduceLE, Int.reduceLT, Int.reduceEq, Nat.reduceMul, Nat.reduceLeDiff, gA, Option.bind_none]
  refine callD (f85 v.row false hl) ?_
  simp only [vmA, Nat.reduceEqDiff, reduceIte, Nat.reduceAdd, Nat.reduceBEq, reduceCtorEq, Nat.reduceLT, Int.reduceLE, Int.reduceLT, Int.reduceEq, Nat.reduceMul, Nat.reduceLeDiff, Option.bind_none]
  (refine hQ _ ?_; simp only [vmA, Nat.reduceEqDiff, reduceIte, Nat.reduceAdd, Nat.reduceBEq, reduceCtorEq, Nat.reduceLT, Int.reduceLE, Int.reduceLT, Int.reduceEq, Nat.reduceMul, Nat.reduceLeDiff, Try.f62, retG, resL, St.closeVs, St.closeV, Option.bind_none])
  rfl
theorem f33 (xs : List Ver) (c : Bool) (hl : xs.length ≤ 1048576) (hs : ∀ v ∈ xs, smV v) : Fx 33 [.fro none c (xs.map gA)] (.own 4 (xs.map gO)) := by
  refine fn_of false Try.func33 (by kernel_rfl) rfl (by kernel_rfl) (by kernel_rfl) (Nat.le_of_ble_eq_true rfl) rfl fun Q hQ => ?_
  simp only [vmA, Nat.reduceEqDiff, reduceIte, Nat.reduceAdd, Nat.reduceBEq, reduceCtorEq, Nat.reduceLT, Int.reduceLE, Int.reduceLT, Int.reduceEq, Nat.reduceMul, Nat.reduceLeDiff]
  refine ⟨by omega, WT_loop (fun (i : Nat) σ => i ≤ xs.length ∧ σ.sl 0 = .fro none c (xs.map gA) ∧ σ.sl 4 = .int .i64 i ∧ σ.sl 3 = .hd 448 1 0 xs.length true ∧ (σ.en 448).live = true ∧ (σ.en 448).gen = 1 ∧ (σ.en 448).frz = false ∧ (σ.en 448).sz = 4 ∧ (σ.en 448).elems = upL gO (.agg [.int .i64 0, .int .i64 0, .int .i64 0, .fro none true []]) xs i) (fun i => xs.length - i) 0 ?_ ?_⟩
  · simp [put_sl, put_en, put_none, init_sl, fresh_sl, fresh_en, ent_sl, ent_en, init_en, upL_zero]
  rintro i σ ⟨hi, e0, e4, e3, l1, l2, l3, l4, l5⟩
  simp only [vmA, Nat.reduceEqDiff, reduceIte, Nat.reduceAdd, Nat.reduceBEq, reduceCtorEq, Nat.reduceLT, Int.reduceLE, Int.reduceLT, Int.reduceEq, Nat.reduceMul, Nat.reduceLeDiff, e0, e4, e3, gO, gA, l1, l2, l3, l4, l5, upL_length gO _ xs hi]
  refine ⟨fun hlt => ?_, fun hge => ?_⟩
  · refine ⟨hlt, by omega, callD (f62 xs[i]! (hs _ (by rw [getElem!_pos xs i (by omega)]; exact List.getElem_mem _))) ?_⟩
    simp only [vmA, Nat.reduceEqDiff, reduceIte, Nat.reduceAdd, Nat.reduceBEq, reduceCtorEq, Nat.reduceLT, Int.reduceLE, Int.reduceLT, Int.reduceEq, Nat.reduceMul, Nat.reduceLeDiff, e0, e4, e3, gO, gA, l1, l2, l3, l4, l5, upL_length gO _ xs hi, upL_get gO _ xs (show i < xs.length by omega), Nat.le_refl]
    refine ⟨hlt, i + 1, ⟨by omega, by rw [wr (by omega)]; rfl, ?_⟩, by omega⟩
    exact upL_set gO _ xs (by omega)
  · obtain rfl : i = xs.length := by omega
    (refine hQ _ ?_; simp only [vmA, Nat.reduceEqDiff, reduceIte, Nat.reduceAdd, Nat.reduceBEq, reduceCtorEq, Nat.reduceLT, Int.reduceLE, Int.reduceLT, Int.reduceEq, Nat.reduceMul, Nat.reduceLeDiff, Try.f33, retG, resL, St.closeVs, St.closeV, l1, l2, l3, l4, l5, upL_full, Nat.le_refl, List.take_length])
theorem f65 (v : Ver) (hl : smV v) : Fx 65 [gA v, gA v] (.bool true) := by
  refine fn_of ⟨false, [], []⟩ Try.func65 (by kernel_rfl) rfl (by kernel_rfl) (by kernel_rfl) (Nat.le_of_ble_eq_true rfl) rfl fun Q hQ => ?_
  simp only [vmA, Nat.reduceEqDiff, reduceIte, Nat.reduceAdd, Nat.reduceBEq, reduceCtorEq, Nat.reduceLT, Int.reduceLE, Int.reduceLT, Int.reduceEq, Nat.reduceMul, Nat.reduceLeDiff, gA]
  refine callD (f35 v.row false false hl) ?_
  simp only [vmA, Nat.reduceEqDiff, reduceIte, Nat.reduceAdd, Nat.reduceBEq, reduceCtorEq, Nat.reduceLT, Int.reduceLE, Int.reduceLT, Int.reduceEq, Nat.reduceMul, Nat.reduceLeDiff, gA]
  (refine hQ _ ?_; simp only [vmA, Nat.reduceEqDiff, reduceIte, Nat.reduceAdd, Nat.reduceBEq, reduceCtorEq, Nat.reduceLT, Int.reduceLE, Int.reduceLT, Int.reduceEq, Nat.reduceMul, Nat.reduceLeDiff, Try.f65, retG, resL, St.closeVs, St.closeV])
theorem f36 (xs : List Ver) (c c2 : Bool) (hl : xs.length ≤ 1048576) (hs : ∀ v ∈ xs, smV v) : Fx 36 [.fro none c (xs.map gA), .fro none c2 (xs.map gA)] (.bool true) := by
  refine fn_of ⟨false, [], []⟩ Try.func36 (by kernel_rfl) rfl (by kernel_rfl) (by kernel_rfl) (Nat.le_of_ble_eq_true rfl) rfl fun Q hQ => ?_
  simp only [vmA, Nat.reduceEqDiff, reduceIte, Nat.reduceAdd, Nat.reduceBEq, reduceCtorEq, Nat.reduceLT, Int.reduceLE, Int.reduceLT, Int.reduceEq, Nat.reduceMul, Nat.reduceLeDiff, List.length_map]
  refine WT_loop (fun (i : Nat) σ => (i ≤ xs.length) ∧ σ.sl 5 = .int .i64 i ∧ σ.sl 0 = .fro none c (xs.map gA) ∧ σ.sl 1 = .fro none c2 (xs.map gA)) (fun i => xs.length - i) (0) ⟨Nat.zero_le _, by simp [put_sl, put_en, put_none, init_sl, fresh_sl, fresh_en, ent_sl, ent_en, init_en], by simp [put_sl, put_en, put_none, init_sl, fresh_sl, fresh_en, ent_sl, ent_en, init_en], by simp [put_sl, put_en, put_none, init_sl, fresh_sl, fresh_en, ent_sl, ent_en, init_en]⟩ ?_
  rintro i σ ⟨hi, e5, e0, e1⟩
  simp only [vmA, Nat.reduceEqDiff, reduceIte, Nat.reduceAdd, Nat.reduceBEq, reduceCtorEq, Nat.reduceLT, Int.reduceLE, Int.reduceLT, Int.reduceEq, Nat.reduceMul, Nat.reduceLeDiff, e5, e0, e1, gA, List.length_map]
  refine ⟨fun h => ⟨h, by omega, h, by omega, callD (f65 xs[i]! (hs _ (by rw [getElem!_pos xs i (by omega)]; exact List.getElem_mem _))) ?_⟩, fun h => ?_⟩
  · simp only [vmA, Nat.reduceEqDiff, reduceIte, Nat.reduceAdd, Nat.reduceBEq, reduceCtorEq, Nat.reduceLT, Int.reduceLE, Int.reduceLT, Int.reduceEq, Nat.reduceMul, Nat.reduceLeDiff, e5, e0, e1, gA, List.length_map]
    rw [wr (by omega)]
    exact ⟨i + 1, ⟨by omega, rfl⟩, by omega⟩
  · (refine hQ _ ?_; simp only [vmA, Nat.reduceEqDiff, reduceIte, Nat.reduceAdd, Nat.reduceBEq, reduceCtorEq, Nat.reduceLT, Int.reduceLE, Int.reduceLT, Int.reduceEq, Nat.reduceMul, Nat.reduceLeDiff, Try.f36, retG, resL, St.closeVs, St.closeV])
