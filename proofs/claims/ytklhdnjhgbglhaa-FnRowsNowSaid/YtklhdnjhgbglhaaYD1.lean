/- WALK of functions of the seat, or plain laws for it: each theorem f<k> says what function k returns, for every world and all arguments that stand for the values named. Conditions: none but those ahead of each theorem. -/
import Derived.Test.YtklhdnjhgbglhaaYB1
open Go Go.Vm Go.Proofs
set_option maxRecDepth 100000
set_option maxHeartbeats 8000000
set_option linter.unusedSimpArgs false
set_option linter.unusedVariables false
theorem f101 (v : Val) (left : Int) (hs : okV v) (h0 : 0 ≤ left) (h1 : left ≤ 1048576) : Fx 101 [vA v, .int .i64 left] (.int .i64 (szv v left)) := by
  refine fn_of false Try.func101 (by kernel_rfl) rfl (by kernel_rfl) (by kernel_rfl) (Nat.le_of_ble_eq_true rfl) rfl fun Q hQ => ?_
  simp only [vmA, Nat.reduceEqDiff, reduceIte, Nat.reduceAdd, Nat.reduceBEq, reduceCtorEq, Nat.reduceLT, Int.reduceLE, Int.reduceLT, Int.reduceEq, Nat.reduceMul, Nat.reduceLeDiff, vA]
  unfold okV at hs
  rw [wr (by omega)]
  refine ⟨fun h => ?_, fun h => ?_⟩ <;> (refine hQ _ ?_; simp only [vmA, Nat.reduceEqDiff, reduceIte, Nat.reduceAdd, Nat.reduceBEq, reduceCtorEq, Nat.reduceLT, Int.reduceLE, Int.reduceLT, Int.reduceEq, Nat.reduceMul, Nat.reduceLeDiff, Try.f101, retG, resL, St.closeVs, St.closeV]) <;> simp [szv, h]
theorem f82 (xs : List Val) (c : Bool) (left : Int) (hs : ∀ v ∈ xs, okV v) (hl : xs.length ≤ 9223372036854775807) (h0 : 0 ≤ left) (h1 : left ≤ 1048576) : Fx 82 [.fro none c (xs.map vA), .int .i64 left] (.int .i64 (szS szv xs left)) := by
  refine fn_of false Try.func82 (by kernel_rfl) rfl (by kernel_rfl) (by kernel_rfl) (Nat.le_of_ble_eq_true rfl) rfl fun Q hQ => ?_
  simp only [vmA, Nat.reduceEqDiff, reduceIte, Nat.reduceAdd, Nat.reduceBEq, reduceCtorEq, Nat.reduceLT, Int.reduceLE, Int.reduceLT, Int.reduceEq, Nat.reduceMul, Nat.reduceLeDiff]
  rw [wr (by omega)]
  refine ⟨fun h => ?_, fun h => ?_⟩
  · (refine hQ _ ?_; simp only [vmA, Nat.reduceEqDiff, reduceIte, Nat.reduceAdd, Nat.reduceBEq, reduceCtorEq, Nat.reduceLT, Int.reduceLE, Int.reduceLT, Int.reduceEq, Nat.reduceMul, Nat.reduceLeDiff, Try.f82, retG, resL, St.closeVs, St.closeV])
    simp [szS, h]
  refine WT_loop (fun (p : Nat × Int) σ => p.1 ≤ xs.length ∧ 0 ≤ p.2 ∧ p.2 ≤ left ∧ szL szv (xs.drop p.1) p.2 = szS szv xs left ∧ σ.sl 0 = .fro none c (xs.map vA) ∧ σ.sl 5 = .int .i64 p.1 ∧ σ.sl 1 = .int .i64 p.2) (fun p => xs.length - p.1) (0, left - xs.length)
    ⟨by omega, by omega, by omega, by simp [szS, h], by simp [put_sl, put_en, put_none, init_sl, fresh_sl, fresh_en, ent_sl, ent_en, init_en], by simp [put_sl, put_en, put_none, init_sl, fresh_sl, fresh_en, ent_sl, ent_en, init_en], by simp [put_sl, put_en, put_none, init_sl, fresh_sl, fresh_en, ent_sl, ent_en, init_en]⟩ ?_
  rintro ⟨i, l⟩ σ ⟨hi, hl0, hl1, hz, e0, e5, e1⟩
  dsimp only at hi hl0 hl1 hz e5 e1
  simp only [vmA, Nat.reduceEqDiff, reduceIte, Nat.reduceAdd, Nat.reduceBEq, reduceCtorEq, Nat.reduceLT, Int.reduceLE, Int.reduceLT, Int.reduceEq, Nat.reduceMul, Nat.reduceLeDiff, e0, e5, e1, vA]
  refine ⟨fun hlt => ⟨hlt, by omega, callD (f101 xs[i]! l (hs _ (by rw [getElem!_pos xs i (by omega)]; exact List.getElem_mem _)) hl0 (by omega)) ?_⟩, fun hge => ?_⟩
  · rw [szL_drop szv (by omega)] at hz
    have hb := szv_ok xs[i]! l hl0
    simp only [vmA, Nat.reduceEqDiff, reduceIte, Nat.reduceAdd, Nat.reduceBEq, reduceCtorEq, Nat.reduceLT, Int.reduceLE, Int.reduceLT, Int.reduceEq, Nat.reduceMul, Nat.reduceLeDiff, e0, e5]
    refine ⟨fun hneg => ?_, fun hpos => ?_⟩
    · (refine hQ _ ?_; simp only [vmA, Nat.reduceEqDiff, reduceIte, Nat.reduceAdd, Nat.reduceBEq, reduceCtorEq, Nat.reduceLT, Int.reduceLE, Int.reduceLT, Int.reduceEq, Nat.reduceMul, Nat.reduceLeDiff, Try.f82, retG, resL, St.closeVs, St.closeV])
      rw [if_pos hneg] at hz; rw [hz]
    · rw [if_neg hpos] at hz
      rw [wr (by omega)]
      refine ⟨(i + 1, szv xs[i]! l), ⟨by dsimp only; omega, by dsimp only; omega, by dsimp only; omega, hz, ?_⟩, by dsimp only; omega⟩
      simp
  · have : xs.drop i = [] := List.drop_of_length_le (by omega)
    rw [this, szL] at hz
    (refine hQ _ ?_; simp only [vmA, Nat.reduceEqDiff, reduceIte, Nat.reduceAdd, Nat.reduceBEq, reduceCtorEq, Nat.reduceLT, Int.reduceLE, Int.reduceLT, Int.reduceEq, Nat.reduceMul, Nat.reduceLeDiff, Try.f82, retG, resL, St.closeVs, St.closeV, e1])
    rw [hz]
theorem f103 (v : Val) : Fx 103 [vA v] (vA v) := by
  refine fn_of false Try.func103 (by kernel_rfl) rfl (by kernel_rfl) (by kernel_rfl) (Nat.le_of_ble_eq_true rfl) rfl fun Q hQ => ?_
  simp only [vmA, Nat.reduceEqDiff, reduceIte, Nat.reduceAdd, Nat.reduceBEq, reduceCtorEq, Nat.reduceLT, Int.reduceLE, Int.reduceLT, Int.reduceEq, Nat.reduceMul, Nat.reduceLeDiff, vA]
  (refine hQ _ ?_; simp only [vmA, Nat.reduceEqDiff, reduceIte, Nat.reduceAdd, Nat.reduceBEq, reduceCtorEq, Nat.reduceLT, Int.reduceLE, Int.reduceLT, Int.reduceEq, Nat.reduceMul, Nat.reduceLeDiff, Try.f103, retG, resL, St.closeVs, St.closeV])
  rfl
theorem f85 (xs : List Val) (c : Bool) (hl : xs.length ≤ 1048576) : Fx 85 [.fro none c (xs.map vA)] (.own 3 (xs.map vA)) := by
  refine fn_of false Try.func85 (by kernel_rfl) rfl (by kernel_rfl) (by kernel_rfl) (Nat.le_of_ble_eq_true rfl) rfl fun Q hQ => ?_
  simp only [vmA, Nat.reduceEqDiff, reduceIte, Nat.reduceAdd, Nat.reduceBEq, reduceCtorEq, Nat.reduceLT, Int.reduceLE, Int.reduceLT, Int.reduceEq, Nat.reduceMul, Nat.reduceLeDiff]
  refine ⟨by omega, WT_loop (fun (i : Nat) σ => i ≤ xs.length ∧ σ.sl 0 = .fro none c (xs.map vA) ∧ σ.sl 4 = .int .i64 i ∧ σ.sl 3 = .hd 448 1 0 xs.length true ∧ (σ.en 448).live = true ∧ (σ.en 448).gen = 1 ∧ (σ.en 448).frz = false ∧ (σ.en 448).sz = 3 ∧ (σ.en 448).elems = upL vA (.agg [.int .i64 0, .int .i64 0, .str ⟨⟨[]⟩⟩]) xs i) (fun i => xs.length - i) 0 ?_ ?_⟩
  · simp [put_sl, put_en, put_none, init_sl, fresh_sl, fresh_en, ent_sl, ent_en, init_en, upL_zero]
  rintro i σ ⟨hi, e0, e4, e3, l1, l2, l3, l4, l5⟩
  simp only [vmA, Nat.reduceEqDiff, reduceIte, Nat.reduceAdd, Nat.reduceBEq, reduceCtorEq, Nat.reduceLT, Int.reduceLE, Int.reduceLT, Int.reduceEq, Nat.reduceMul, Nat.reduceLeDiff, e0, e4, e3, vA, l1, l2, l3, l4, l5, upL_length vA _ xs hi]
  refine ⟨fun hlt => ?_, fun hge => ?_⟩
  · refine ⟨hlt, by omega, callD (f103 xs[i]!) ?_⟩
    simp only [vmA, Nat.reduceEqDiff, reduceIte, Nat.reduceAdd, Nat.reduceBEq, reduceCtorEq, Nat.reduceLT, Int.reduceLE, Int.reduceLT, Int.reduceEq, Nat.reduceMul, Nat.reduceLeDiff, e0, e4, e3, vA, l1, l2, l3, l4, l5, upL_length vA _ xs hi, upL_get vA _ xs (show i < xs.length by omega), Nat.le_refl]
    refine ⟨hlt, i + 1, ⟨by omega, by rw [wr (by omega)]; rfl, ?_⟩, by omega⟩
    exact upL_set vA _ xs (by omega)
  · obtain rfl : i = xs.length := by omega
    (refine hQ _ ?_; simp only [vmA, Nat.reduceEqDiff, reduceIte, Nat.reduceAdd, Nat.reduceBEq, reduceCtorEq, Nat.reduceLT, Int.reduceLE, Int.reduceLT, Int.reduceEq, Nat.reduceMul, Nat.reduceLeDiff, Try.f85, retG, resL, St.closeVs, St.closeV, l1, l2, l3, l4, l5, upL_full, Nat.le_refl, List.take_length])
theorem f64 (v : Val) : Fx 64 [vA v, vA v] (.bool true) := by
  refine fn_of false Try.func64 (by kernel_rfl) rfl (by kernel_rfl) (by kernel_rfl) (Nat.le_of_ble_eq_true rfl) rfl fun Q hQ => ?_
  simp only [vmA, Nat.reduceEqDiff, reduceIte, Nat.reduceAdd, Nat.reduceBEq, reduceCtorEq, Nat.reduceLT, Int.reduceLE, Int.reduceLT, Int.reduceEq, Nat.reduceMul, Nat.reduceLeDiff, vA]
  (refine hQ _ ?_; simp only [vmA, Nat.reduceEqDiff, reduceIte, Nat.reduceAdd, Nat.reduceBEq, reduceCtorEq, Nat.reduceLT, Int.reduceLE, Int.reduceLT, Int.reduceEq, Nat.reduceMul, Nat.reduceLeDiff, Try.f64, retG, resL, St.closeVs, St.closeV])
theorem f35 (xs : List Val) (c c2 : Bool) (hl : xs.length ≤ 1048576) : Fx 35 [.fro none c (xs.map vA), .fro none c2 (xs.map vA)] (.bool true) := by
  refine fn_of false Try.func35 (by kernel_rfl) rfl (by kernel_rfl) (by kernel_rfl) (Nat.le_of_ble_eq_true rfl) rfl fun Q hQ => ?_
  simp only [vmA, Nat.reduceEqDiff, reduceIte, Nat.reduceAdd, Nat.reduceBEq, reduceCtorEq, Nat.reduceLT, Int.reduceLE, Int.reduceLT, Int.reduceEq, Nat.reduceMul, Nat.reduceLeDiff]
  refine WT_loop (fun (i : Nat) σ => i ≤ xs.length ∧ σ.sl 0 = .fro none c (xs.map vA) ∧ σ.sl 1 = .fro none c2 (xs.map vA) ∧ σ.sl 5 = .int .i64 i) (fun i => xs.length - i) 0 ⟨by omega, by simp [put_sl, put_en, put_none, init_sl, fresh_sl, fresh_en, ent_sl, ent_en, init_en], by simp [put_sl, put_en, put_none, init_sl, fresh_sl, fresh_en, ent_sl, ent_en, init_en], by simp [put_sl, put_en, put_none, init_sl, fresh_sl, fresh_en, ent_sl, ent_en, init_en]⟩ ?_
  rintro i σ ⟨hi, e0, e1, e5⟩
  simp only [vmA, Nat.reduceEqDiff, reduceIte, Nat.reduceAdd, Nat.reduceBEq, reduceCtorEq, Nat.reduceLT, Int.reduceLE, Int.reduceLT, Int.reduceEq, Nat.reduceMul, Nat.reduceLeDiff, e0, e1, e5, vA]
  refine ⟨fun hlt => ?_, fun hge => ?_⟩
  · refine ⟨hlt, by omega, hlt, by omega, callD (f64 xs[i]!) ?_⟩
    simp only [vmA, Nat.reduceEqDiff, reduceIte, Nat.reduceAdd, Nat.reduceBEq, reduceCtorEq, Nat.reduceLT, Int.reduceLE, Int.reduceLT, Int.reduceEq, Nat.reduceMul, Nat.reduceLeDiff, e0, e1, e5]
    refine ⟨i + 1, ⟨by omega, by rw [wr (by omega)]; rfl⟩, by omega⟩
  · (refine hQ _ ?_; simp only [vmA, Nat.reduceEqDiff, reduceIte, Nat.reduceAdd, Nat.reduceBEq, reduceCtorEq, Nat.reduceLT, Int.reduceLE, Int.reduceLT, Int.reduceEq, Nat.reduceMul, Nat.reduceLeDiff, Try.f35, retG, resL, St.closeVs, St.closeV])
theorem f69p (k : Int) (hk : k ≤ 4611686018427387904) : Fx 69 [.int .i64 k] (.str (mkT k)) := by
  refine fn_of false Try.func69 (by kernel_rfl) rfl (by kernel_rfl) (by kernel_rfl) (Nat.le_of_ble_eq_true rfl) rfl fun Q hQ => ?_
  simp only [vmA, Nat.reduceEqDiff, reduceIte, Nat.reduceAdd, Nat.reduceBEq, reduceCtorEq, Nat.reduceLT, Int.reduceLE, Int.reduceLT, Int.reduceEq, Nat.reduceMul, Nat.reduceLeDiff]
  refine ⟨fun h => ?_, fun h => ?_⟩
  · (refine hQ _ ?_; simp only [vmA, Nat.reduceEqDiff, reduceIte, Nat.reduceAdd, Nat.reduceBEq, reduceCtorEq, Nat.reduceLT, Int.reduceLE, Int.reduceLT, Int.reduceEq, Nat.reduceMul, Nat.reduceLeDiff, Try.f69, retG, resL, St.closeVs, St.closeV])
    rw [mkT, if_pos (by omega)]
  refine WT_loop (fun (p : Int × ByteArray) σ => (0 ≤ p.1 ∧ p.1 + p.2.size ≤ k ∧ mkD p.1 p.2 = mkD k ⟨⟨[]⟩⟩) ∧ σ.sl 0 = .int .i64 p.1 ∧ σ.sl 3 = .str p.2) (fun p => p.1.toNat) (k, ⟨⟨[]⟩⟩) ⟨⟨by dsimp only; omega, by dsimp only; show k + ((0 : Nat) : Int) ≤ k; omega, rfl⟩, by simp [put_sl, put_en, put_none, init_sl, fresh_sl, fresh_en, ent_sl, ent_en, init_en], by simp [put_sl, put_en, put_none, init_sl, fresh_sl, fresh_en, ent_sl, ent_en, init_en]⟩ ?_
  rintro ⟨m, s⟩ σ ⟨⟨h0, h1, h2⟩, e0, e3⟩
  dsimp only at h0 h1 h2 e0 e3
  simp only [vmA, Nat.reduceEqDiff, reduceIte, Nat.reduceAdd, Nat.reduceBEq, reduceCtorEq, Nat.reduceLT, Int.reduceLE, Int.reduceLT, Int.reduceEq, Nat.reduceMul, Nat.reduceLeDiff, e0, e3, ↓cv22, convS, bytesL, intsOf, Int.reduceEq, Option.map_some]
  refine ⟨fun hlt => ?_, fun hge => ?_⟩
  · rw [binStr_add _ _ (by rw [textOf_one]; omega)]
    simp only [vmA, Nat.reduceEqDiff, reduceIte, Nat.reduceAdd, Nat.reduceBEq, reduceCtorEq, Nat.reduceLT, Int.reduceLE, Int.reduceLT, Int.reduceEq, Nat.reduceMul, Nat.reduceLeDiff, e0, e3, Int.reduceEq]
    have hq : 0 ≤ m.tdiv 10 ∧ m.tdiv 10 ≤ m - 1 := by
      rw [Int.tdiv_eq_ediv_of_nonneg (by omega)]
      omega
    rw [wr (x := m.tdiv 10) (by omega)]
    refine ⟨(m.tdiv 10, _ ++ s), ⟨⟨by dsimp only; omega, ?_, ?_⟩, rfl, rfl⟩, by dsimp only; omega⟩
    · dsimp only
      rw [ByteArray.size_append, textOf_one]
      omega
    · rw [← h2]
      conv => rhs; rw [mkD, dif_neg (by omega)]
  · rw [binStr_add _ _ (show 1 + s.size ≤ _ by omega)]
    simp only [vmA, Nat.reduceEqDiff, reduceIte, Nat.reduceAdd, Nat.reduceBEq, reduceCtorEq, Nat.reduceLT, Int.reduceLE, Int.reduceLT, Int.reduceEq, Nat.reduceMul, Nat.reduceLeDiff, e0, e3]
    (refine hQ _ ?_; simp only [vmA, Nat.reduceEqDiff, reduceIte, Nat.reduceAdd, Nat.reduceBEq, reduceCtorEq, Nat.reduceLT, Int.reduceLE, Int.reduceLT, Int.reduceEq, Nat.reduceMul, Nat.reduceLeDiff, Try.f69, retG, resL, St.closeVs, St.closeV, e0, e3])
    rw [mkT, if_neg (by omega), ← h2, mkD, dif_pos (by omega)]
theorem f40p (xs : List Val) (k : Int) (hk : 0 ≤ k) (hl : k + 3 * xs.length ≤ 4611686018427387904) : FxR 40 [.own 3 (xs.map vA), .int .i64 k] fun r l => r = .int .i64 (k + 3 * xs.length) ∧ l = .own 3 ((mkVs xs.length k).map vA) := by
  refine fn_ofW false (k := 0) Try.func40 (by kernel_rfl) rfl (by kernel_rfl) (by kernel_rfl) (Nat.le_of_ble_eq_true rfl) rfl ⟨_, _, .inl rfl⟩ rfl fun Q hQ => ?_
  simp only [vmA, Nat.reduceEqDiff, reduceIte, Nat.reduceAdd, Nat.reduceBEq, reduceCtorEq, Nat.reduceLT, Int.reduceLE, Int.reduceLT, Int.reduceEq, Nat.reduceMul, Nat.reduceLeDiff, List.length_map]
  refine WT_loop (fun (p : Nat × List Val) σ => (p.1 ≤ xs.length ∧ p.2.length = xs.length ∧ ∀ j, j < p.1 → p.2[j]! = mkV1 k j) ∧ σ.sl 0 = .hd 0 1 0 xs.length false ∧ (σ.en 0).live = true ∧ (σ.en 0).gen = 1 ∧ (σ.en 0).frz = false ∧ (σ.en 0).sz = 3 ∧ (σ.en 0).elems = p.2.map vA ∧ σ.sl 1 = .int .i64 (k + 3 * p.1) ∧ σ.sl 5 = .int .i64 p.1) (fun p => xs.length - p.1) (0, xs) ⟨⟨by simp, rfl, by simp⟩, by simp [put_sl, put_en, put_none, init_sl, fresh_sl, fresh_en, ent_sl, ent_en, init_en], by simp [put_sl, put_en, put_none, init_sl, fresh_sl, fresh_en, ent_sl, ent_en, init_en], by simp [put_sl, put_en, put_none, init_sl, fresh_sl, fresh_en, ent_sl, ent_en, init_en], by simp [put_sl, put_en, put_none, init_sl, fresh_sl, fresh_en, ent_sl, ent_en, init_en], by simp [put_sl, put_en, put_none, init_sl, fresh_sl, fresh_en, ent_sl, ent_en, init_en], by simp [put_sl, put_en, put_none, init_sl, fresh_sl, fresh_en, ent_sl, ent_en, init_en], by simp [put_sl, put_en, put_none, init_sl, fresh_sl, fresh_en, ent_sl, ent_en, init_en], by simp [put_sl, put_en, put_none, init_sl, fresh_sl, fresh_en, ent_sl, ent_en, init_en]⟩ ?_
  rintro ⟨i, ys⟩ σ ⟨⟨hi, hyl, hy⟩, e0, l1, l2, l3, l4, l5, e1, e5⟩
  dsimp only at hi hyl hy l5 e1 e5
  simp only [vmA, Nat.reduceEqDiff, reduceIte, Nat.reduceAdd, Nat.reduceBEq, reduceCtorEq, Nat.reduceLT, Int.reduceLE, Int.reduceLT, Int.reduceEq, Nat.reduceMul, Nat.reduceLeDiff, e0, l1, l2, l3, l4, l5, e1, e5, List.length_map, hyl, vA, set_vA]
  refine ⟨fun hlt => ⟨hlt, by omega, ?_, ?_, ?_⟩, fun hge => ?_⟩
  · simp <;> omega
  · simp <;> omega
  · simp (disch := omega) only [wr]
    refine callD (f69p _ (by omega)) ?_
    simp only [vmA, Nat.reduceEqDiff, reduceIte, Nat.reduceAdd, Nat.reduceBEq, reduceCtorEq, Nat.reduceLT, Int.reduceLE, Int.reduceLT, Int.reduceEq, Nat.reduceMul, Nat.reduceLeDiff, e0, l1, l2, l3, l4, l5, e1, e5, List.length_map, hyl, vA, set_vA, List.length_set]
    simp (disch := omega) only [wr]
    refine ⟨hlt, by omega, (i + 1, ys.set i (mkV1 k i)), ⟨⟨by dsimp only; omega, by simpa using hyl, mk_set _ (by omega) hy⟩, ?_, leafJ (by dsimp only; omega), rfl⟩, by dsimp only; omega⟩
    simp only [List.set_set, get_set ys i _ (show i < ys.length by omega), mkV1]
    rw [Int.add_assoc _ 1 1]
    rfl
  · (refine hQ _ ?_; simp only [vmA, Nat.reduceEqDiff, reduceIte, Nat.reduceAdd, Nat.reduceBEq, reduceCtorEq, Nat.reduceLT, Int.reduceLE, Int.reduceLT, Int.reduceEq, Nat.reduceMul, Nat.reduceLeDiff, Try.f40, retG, resL, St.closeVs, St.closeV, leftV, ghostW, e0, l1, l2, l3, l4, l5, e1, e5, List.length_map, hyl])
    obtain rfl : i = xs.length := by omega
    refine ⟨rfl, ?_⟩
    rw [List.take_of_length_le (by simp; omega), mk_all _ hyl hy]
    rfl
theorem f41 (n : Nat) (k : Int) (c : Bool) (hk : 0 ≤ k) (hl : k + 3 * n ≤ 4611686018427387904) : Fx 41 [.fro none c ((mkVs n k).map vA), .int .i64 k] (.int .i64 (k + 3 * n)) := by
  refine fn_of false Try.func41 (by kernel_rfl) rfl (by kernel_rfl) (by kernel_rfl) (Nat.le_of_ble_eq_true rfl) rfl fun Q hQ => ?_
  have hyl := mkVs_length n k
  have hy : ∀ i, i < n → (mkVs n k)[i]! = mkV1 k i := fun i hi => mk_at _ hi
  generalize mkVs n k = ys at hyl hy
  simp only [vmA, Nat.reduceEqDiff, reduceIte, Nat.reduceAdd, Nat.reduceBEq, reduceCtorEq, Nat.reduceLT, Int.reduceLE, Int.reduceLT, Int.reduceEq, Nat.reduceMul, Nat.reduceLeDiff, List.length_map, hyl]
  refine WT_loop (fun (i : Nat) σ => i ≤ n ∧ σ.sl 0 = .fro none c (ys.map vA) ∧ σ.sl 1 = .int .i64 (k + 3 * i) ∧ σ.sl 5 = .int .i64 i) (fun i => n - i) 0 ⟨by omega, by simp [put_sl, put_en, put_none, init_sl, fresh_sl, fresh_en, ent_sl, ent_en, init_en], by simp [put_sl, put_en, put_none, init_sl, fresh_sl, fresh_en, ent_sl, ent_en, init_en], by simp [put_sl, put_en, put_none, init_sl, fresh_sl, fresh_en, ent_sl, ent_en, init_en]⟩ ?_
  rintro i σ ⟨hi, e0, e1, e5⟩
  simp only [vmA, Nat.reduceEqDiff, reduceIte, Nat.reduceAdd, Nat.reduceBEq, reduceCtorEq, Nat.reduceLT, Int.reduceLE, Int.reduceLT, Int.reduceEq, Nat.reduceMul, Nat.reduceLeDiff, e0, e1, e5, List.length_map, hyl, vA]
  refine ⟨fun hlt => ⟨hlt, by omega, ?_⟩, fun hge => ?_⟩
  · have hh := hy i (by omega)
    rw [hh]
    simp only [mkV1]
    rw [wr (x := k + 3 * (i : Int) + 1) (by omega), wr (x := k + 3 * (i : Int) + 1 + 1) (by omega)]
    refine ⟨fun h => absurd trivial h, fun _ => ⟨hlt, by omega, fun h => absurd rfl h, fun _ => ⟨hlt, by omega, callD (f69p _ (by omega)) ?_⟩⟩⟩
    simp only [vmA, Nat.reduceEqDiff, reduceIte, Nat.reduceAdd, Nat.reduceBEq, reduceCtorEq, Nat.reduceLT, Int.reduceLE, Int.reduceLT, Int.reduceEq, Nat.reduceMul, Nat.reduceLeDiff, e0, e1, e5, List.length_map, hyl, vA]
    rw [wr (by omega), wr (by omega), show k + 3 * (i : Int) + 1 + 1 = k + 3 * (i : Int) + 2 by omega]
    exact ⟨fun h => absurd rfl h, fun _ => ⟨i + 1, ⟨by omega, leafJ (by omega), leafJ (by omega)⟩, by omega⟩⟩
  · (refine hQ _ ?_; simp only [vmA, Nat.reduceEqDiff, reduceIte, Nat.reduceAdd, Nat.reduceBEq, reduceCtorEq, Nat.reduceLT, Int.reduceLE, Int.reduceLT, Int.reduceEq, Nat.reduceMul, Nat.reduceLeDiff, Try.f41, retG, resL, St.closeVs, St.closeV, e0, e1, e5])
    exact leafJ (by omega)
theorem f14 (xs : List (List Val)) (c c2 : Bool) (hl : xs.length ≤ 1048576) (hs : ∀ w ∈ xs, w.length ≤ 1048576) : Fx 14 [.fro none c (xs.map rA), .fro none c2 (xs.map rA)] (.bool true) := by
  refine fn_of false Try.func14 (by kernel_rfl) rfl (by kernel_rfl) (by kernel_rfl) (Nat.le_of_ble_eq_true rfl) rfl fun Q hQ => ?_
  simp only [vmA, Nat.reduceEqDiff, reduceIte, Nat.reduceAdd, Nat.reduceBEq, reduceCtorEq, Nat.reduceLT, Int.reduceLE, Int.reduceLT, Int.reduceEq, Nat.reduceMul, Nat.reduceLeDiff, List.length_map]
  refine WT_loop (fun (i : Nat) σ => i ≤ xs.length ∧ σ.sl 0 = .fro none c (xs.map rA) ∧ σ.sl 1 = .fro none c2 (xs.map rA) ∧ σ.sl 5 = .int .i64 i) (fun i => xs.length - i) 0 ⟨by omega, by simp [put_sl, put_en, put_none, init_sl, fresh_sl, fresh_en, ent_sl, ent_en, init_en], by simp [put_sl, put_en, put_none, init_sl, fresh_sl, fresh_en, ent_sl, ent_en, init_en], by simp [put_sl, put_en, put_none, init_sl, fresh_sl, fresh_en, ent_sl, ent_en, init_en]⟩ ?_
  rintro i σ ⟨hi, e0, e1, e5⟩
  simp only [vmA, Nat.reduceEqDiff, reduceIte, Nat.reduceAdd, Nat.reduceBEq, reduceCtorEq, Nat.reduceLT, Int.reduceLE, Int.reduceLT, Int.reduceEq, Nat.reduceMul, Nat.reduceLeDiff, e0, e1, e5, rA, List.length_map]
  refine ⟨fun hlt => ?_, fun hge => ?_⟩
  · refine ⟨hlt, by omega, hlt, by omega, callD (f35 xs[i]! false false (hs _ (by rw [getElem!_pos xs i (by omega)]; exact List.getElem_mem _))) ?_⟩
    simp only [vmA, Nat.reduceEqDiff, reduceIte, Nat.reduceAdd, Nat.reduceBEq, reduceCtorEq, Nat.reduceLT, Int.reduceLE, Int.reduceLT, Int.reduceEq, Nat.reduceMul, Nat.reduceLeDiff, e0, e1, e5]
    refine ⟨i + 1, ⟨by omega, by rw [wr (by omega)]; rfl⟩, by omega⟩
  · (refine hQ _ ?_; simp only [vmA, Nat.reduceEqDiff, reduceIte, Nat.reduceAdd, Nat.reduceBEq, reduceCtorEq, Nat.reduceLT, Int.reduceLE, Int.reduceLT, Int.reduceEq, Nat.reduceMul, Nat.reduceLeDiff, Try.f14, retG, resL, St.closeVs, St.closeV])
theorem f17 (rs : List (List Val)) (k : Int) (hk : 0 ≤ k) (hr : ∀ r ∈ rs, r.length ≤ 1048576) (hl : k + 3145728 * rs.length ≤ 4611686018427387904) : FxR 17 [.own 1 (rs.map rO), .int .i64 k] fun r l => r = .int .i64 (k + pR rs rs.length) ∧ l = .own 1 ((mkRs rs k).map rO) := by
  refine fn_ofW false (k := 0) Try.func17 (by kernel_rfl) rfl (by kernel_rfl) (by kernel_rfl) (Nat.le_of_ble_eq_true rfl) rfl ⟨_, _, .inl rfl⟩ rfl fun Q hQ => ?_
  simp only [vmA, Nat.reduceEqDiff, reduceIte, Nat.reduceAdd, Nat.reduceBEq, reduceCtorEq, Nat.reduceLT, Int.reduceLE, Int.reduceLT, Int.reduceEq, Nat.reduceMul, Nat.reduceLeDiff, List.length_map]
  refine WT_loop (fun (p : Nat × List (List Val)) σ => (p.1 ≤ rs.length ∧ p.2.length = rs.length ∧ (∀ j, j < p.1 → p.2[j]! = mkR1 rs k j) ∧ ∀ j, p.1 ≤ j → p.2[j]! = rs[j]!) ∧ σ.sl 0 = .hd 0 1 0 rs.length false ∧ (σ.en 0).live = true ∧ (σ.en 0).gen = 1 ∧ (σ.en 0).frz = false ∧ (σ.en 0).sz = 1 ∧ (σ.en 0).elems = p.2.map rO ∧ σ.sl 1 = .int .i64 (k + pR rs p.1) ∧ σ.sl 5 = .int .i64 p.1) (fun p => rs.length - p.1) (0, rs) ⟨⟨by simp, rfl, by simp, fun _ _ => rfl⟩, by simp [put_sl, put_en, put_none, init_sl, fresh_sl, fresh_en, ent_sl, ent_en, init_en], by simp [put_sl, put_en, put_none, init_sl, fresh_sl, fresh_en, ent_sl, ent_en, init_en], by simp [put_sl, put_en, put_none, init_sl, fresh_sl, fresh_en, ent_sl, ent_en, init_en], by simp [put_sl, put_en, put_none, init_sl, fresh_sl, fresh_en, ent_sl, ent_en, init_en], by simp [put_sl, put_en, put_none, init_sl, fresh_sl, fresh_en, ent_sl, ent_en, init_en], by simp [put_sl, put_en, put_none, init_sl, fresh_sl, fresh_en, ent_sl, ent_en, init_en], by simp [put_sl, put_en, put_none, init_sl, fresh_sl, fresh_en, ent_sl, ent_en, init_en, pR], by simp [put_sl, put_en, put_none, init_sl, fresh_sl, fresh_en, ent_sl, ent_en, init_en]⟩ ?_
  rintro ⟨i, ys⟩ σ ⟨⟨hi, hyl, hy, hz⟩, e0, l1, l2, l3, l4, l5, e1, e5⟩
  dsimp only at hi hyl hy hz l5 e1 e5
  have hp := pR_le rs hr i hi
  simp only [vmA, Nat.reduceEqDiff, reduceIte, Nat.reduceAdd, Nat.reduceBEq, reduceCtorEq, Nat.reduceLT, Int.reduceLE, Int.reduceLT, Int.reduceEq, Nat.reduceMul, Nat.reduceLeDiff, e0, l1, l2, l3, l4, l5, e1, e5, List.length_map, hyl, rO]
  refine ⟨fun hlt => ?_, fun hge => ?_⟩
  · have hyi : rs[i]!.length ≤ 1048576 := by rw [getElem!_pos rs i (by omega)]; exact hr _ (List.getElem_mem _)
    have hn := pR_next rs (i := i) (by omega)
    rw [hz i (Nat.le_refl _)]
    refine ⟨hlt, by omega, by omega, callR (f40p rs[i]! (k + pR rs i) (by omega) (by omega)) ?_⟩
    rintro _ _ ⟨rfl, rfl⟩
    have hm := mod_rO ys i (mkVs rs[i]!.length (k + pR rs i)) (by omega)
    simp only [vmA, Nat.reduceEqDiff, reduceIte, Nat.reduceAdd, Nat.reduceBEq, reduceCtorEq, Nat.reduceLT, Int.reduceLE, Int.reduceLT, Int.reduceEq, Nat.reduceMul, Nat.reduceLeDiff, e0, l1, l2, l3, l4, l5, e1, e5, List.length_map, hyl, rO, List.length_set]
    rw [hm, wr (by omega)]
    refine ⟨(i + 1, ys.set i (mkR1 rs k i)), ⟨⟨by dsimp only; omega, by simpa using hyl, mk_set _ (by omega) hy, fun j hj => ?_⟩, rfl, leafJ (by dsimp only; omega), rfl⟩, by dsimp only; omega⟩
    dsimp only at hj ⊢
    rw [← hz j (by omega)]
    by_cases hjl : j < ys.length
    · rw [getElem!_pos _ j (by simpa using hjl), List.getElem_set_ne (by omega), ← getElem!_pos ys j hjl]
    · rw [getElem!_neg _ j (by simpa using hjl), getElem!_neg _ j hjl]
  · (refine hQ _ ?_; simp only [vmA, Nat.reduceEqDiff, reduceIte, Nat.reduceAdd, Nat.reduceBEq, reduceCtorEq, Nat.reduceLT, Int.reduceLE, Int.reduceLT, Int.reduceEq, Nat.reduceMul, Nat.reduceLeDiff, Try.f17, retG, resL, St.closeVs, St.closeV, leftV, ghostW, e0, l1, l2, l3, l4, l5, e1, e5, List.length_map, hyl])
    obtain rfl : i = rs.length := by omega
    refine ⟨rfl, ?_⟩
    rw [List.take_of_length_le (by simp; omega), mk_all _ hyl hy]
    rfl
theorem f18 (rs : List (List Val)) (k : Int) (c : Bool) (hk : 0 ≤ k) (hr : ∀ r ∈ rs, r.length ≤ 1048576) (hl : k + 3145728 * rs.length ≤ 4611686018427387904) : Fx 18 [.fro none c ((mkRs rs k).map rA), .int .i64 k] (.int .i64 (k + pR rs rs.length)) := by
  refine fn_of false Try.func18 (by kernel_rfl) rfl (by kernel_rfl) (by kernel_rfl) (Nat.le_of_ble_eq_true rfl) rfl fun Q hQ => ?_
  have hyl := mkRs_length rs k
  have hy : ∀ i, i < rs.length → (mkRs rs k)[i]! = mkR1 rs k i := fun i hi => mk_at _ hi
  generalize mkRs rs k = ys at hyl hy
  simp only [vmA, Nat.reduceEqDiff, reduceIte, Nat.reduceAdd, Nat.reduceBEq, reduceCtorEq, Nat.reduceLT, Int.reduceLE, Int.reduceLT, Int.reduceEq, Nat.reduceMul, Nat.reduceLeDiff, List.length_map, hyl]
  refine WT_loop (fun (i : Nat) σ => i ≤ rs.length ∧ σ.sl 0 = .fro none c (ys.map rA) ∧ σ.sl 1 = .int .i64 (k + pR rs i) ∧ σ.sl 5 = .int .i64 i) (fun i => rs.length - i) 0 ⟨by omega, by simp [put_sl, put_en, put_none, init_sl, fresh_sl, fresh_en, ent_sl, ent_en, init_en], by simp [put_sl, put_en, put_none, init_sl, fresh_sl, fresh_en, ent_sl, ent_en, init_en, pR], by simp [put_sl, put_en, put_none, init_sl, fresh_sl, fresh_en, ent_sl, ent_en, init_en]⟩ ?_
  rintro i σ ⟨hi, e0, e1, e5⟩
  have hp := pR_le rs hr i hi
  simp only [vmA, Nat.reduceEqDiff, reduceIte, Nat.reduceAdd, Nat.reduceBEq, reduceCtorEq, Nat.reduceLT, Int.reduceLE, Int.reduceLT, Int.reduceEq, Nat.reduceMul, Nat.reduceLeDiff, e0, e1, e5, List.length_map, hyl, rA]
  refine ⟨fun hlt => ?_, fun hge => ?_⟩
  · have hh := hy i (by omega)
    have hyi : rs[i]!.length ≤ 1048576 := by rw [getElem!_pos rs i (by omega)]; exact hr _ (List.getElem_mem _)
    have hn := pR_next rs (i := i) (by omega)
    rw [hh]
    refine ⟨hlt, by omega, callD (f41 _ _ _ (by omega) (by omega)) ?_⟩
    simp only [vmA, Nat.reduceEqDiff, reduceIte, Nat.reduceAdd, Nat.reduceBEq, reduceCtorEq, Nat.reduceLT, Int.reduceLE, Int.reduceLT, Int.reduceEq, Nat.reduceMul, Nat.reduceLeDiff, e0, e1, e5, List.length_map, hyl, rA]
    rw [wr (by omega)]
    exact ⟨fun h => absurd h (by omega), fun _ => ⟨i + 1, ⟨by omega, leafJ (by omega), leafJ (by omega)⟩, by omega⟩⟩
  · (refine hQ _ ?_; simp only [vmA, Nat.reduceEqDiff, reduceIte, Nat.reduceAdd, Nat.reduceBEq, reduceCtorEq, Nat.reduceLT, Int.reduceLE, Int.reduceLT, Int.reduceEq, Nat.reduceMul, Nat.reduceLeDiff, Try.f18, retG, resL, St.closeVs, St.closeV, e0, e1, e5])
    exact leafJ (by rw [show i = rs.length by omega])
