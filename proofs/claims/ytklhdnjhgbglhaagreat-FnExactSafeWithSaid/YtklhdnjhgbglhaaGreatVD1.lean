/- WALK of functions of the seat, or plain laws for it: each theorem f<k> says what function k returns, for every world and all arguments that stand for the values named. Conditions: none but those ahead of each theorem. -/
import Derived.Test.YtklhdnjhgbglhaaGreatVB2
open Go Go.Vm Go.Proofs
set_option maxRecDepth 100000
set_option maxHeartbeats 8000000
set_option linter.unusedSimpArgs false
set_option linter.unusedVariables false
set_option maxHeartbeats 8000000
set_option linter.unusedSimpArgs false
set_option linter.unusedVariables false
theorem f125 (v : Val) (left : Int) (hs : okV v) (h0 : 0 ≤ left) (h1 : left ≤ 1048576) : Fx 125 [vA v, .int .i64 left] (.int .i64 (szv v left)) := by
  refine fn_of false Tryz.func125 (by kernel_rfl) rfl (by kernel_rfl) (by kernel_rfl) (Nat.le_of_ble_eq_true rfl) rfl fun Q hQ => ?_
  simp only [vmA, Nat.reduceEqDiff, reduceIte, Nat.reduceAdd, Nat.reduceBEq, reduceCtorEq, Nat.reduceLT, Int.reduceLE, Int.reduceLT, Int.reduceEq, Nat.reduceMul, Nat.reduceLeDiff, vA]
  unfold okV at hs
  rw [wr (by omega)]
  refine ⟨fun h => ?_, fun h => ?_⟩ <;> (refine hQ _ ?_; simp only [vmA, Nat.reduceEqDiff, reduceIte, Nat.reduceAdd, Nat.reduceBEq, reduceCtorEq, Nat.reduceLT, Int.reduceLE, Int.reduceLT, Int.reduceEq, Nat.reduceMul, Nat.reduceLeDiff, Tryz.f125, retG, resL, St.closeVs, St.closeV]) <;> simp [szv, h]
theorem f69 (xs : List Val) (c : Bool) (left : Int) (hs : ∀ v ∈ xs, okV v) (hl : xs.length ≤ 9223372036854775807) (h0 : 0 ≤ left) (h1 : left ≤ 1048576) : Fx 69 [.fro none c (xs.map vA), .int .i64 left] (.int .i64 (szS szv xs left)) := by
  refine fn_of false Tryz.func69 (by kernel_rfl) rfl (by kernel_rfl) (by kernel_rfl) (Nat.le_of_ble_eq_true rfl) rfl fun Q hQ => ?_
  simp only [vmA, Nat.reduceEqDiff, reduceIte, Nat.reduceAdd, Nat.reduceBEq, reduceCtorEq, Nat.reduceLT, Int.reduceLE, Int.reduceLT, Int.reduceEq, Nat.reduceMul, Nat.reduceLeDiff]
  rw [wr (by omega)]
  refine ⟨fun h => ?_, fun h => ?_⟩
  · (refine hQ _ ?_; simp only [vmA, Nat.reduceEqDiff, reduceIte, Nat.reduceAdd, Nat.reduceBEq, reduceCtorEq, Nat.reduceLT, Int.reduceLE, Int.reduceLT, Int.reduceEq, Nat.reduceMul, Nat.reduceLeDiff, Tryz.f69, retG, resL, St.closeVs, St.closeV])
    simp [szS, h]
  refine WT_loop (fun (p : Nat × Int) σ => p.1 ≤ xs.length ∧ 0 ≤ p.2 ∧ p.2 ≤ left ∧ szL szv (xs.drop p.1) p.2 = szS szv xs left ∧ σ.sl 0 = .fro none c (xs.map vA) ∧ σ.sl 5 = .int .i64 p.1 ∧ σ.sl 1 = .int .i64 p.2) (fun p => xs.length - p.1) (0, left - xs.length)
    ⟨by omega, by omega, by omega, by simp [szS, h], by simp [vmI], by simp [vmI], by simp [vmI]⟩ ?_
  rintro ⟨i, l⟩ σ ⟨hi, hl0, hl1, hz, e0, e5, e1⟩
  dsimp only at hi hl0 hl1 hz e5 e1
  simp only [vmA, Nat.reduceEqDiff, reduceIte, Nat.reduceAdd, Nat.reduceBEq, reduceCtorEq, Nat.reduceLT, Int.reduceLE, Int.reduceLT, Int.reduceEq, Nat.reduceMul, Nat.reduceLeDiff, e0, e5, e1, vA]
  refine ⟨fun hlt => ⟨hlt, by omega, callD (f125 xs[i]! l (hs _ (by rw [getElem!_pos xs i (by omega)]; exact List.getElem_mem _)) hl0 (by omega)) ?_⟩, fun hge => ?_⟩
  · rw [szL_drop szv (by omega)] at hz
    have hb := szv_ok xs[i]! l hl0
    simp only [vmA, Nat.reduceEqDiff, reduceIte, Nat.reduceAdd, Nat.reduceBEq, reduceCtorEq, Nat.reduceLT, Int.reduceLE, Int.reduceLT, Int.reduceEq, Nat.reduceMul, Nat.reduceLeDiff, e0, e5]
    refine ⟨fun hneg => ?_, fun hpos => ?_⟩
    · (refine hQ _ ?_; simp only [vmA, Nat.reduceEqDiff, reduceIte, Nat.reduceAdd, Nat.reduceBEq, reduceCtorEq, Nat.reduceLT, Int.reduceLE, Int.reduceLT, Int.reduceEq, Nat.reduceMul, Nat.reduceLeDiff, Tryz.f69, retG, resL, St.closeVs, St.closeV])
      rw [if_pos hneg] at hz; rw [hz]
    · rw [if_neg hpos] at hz
      rw [wr (by omega)]
      refine ⟨(i + 1, szv xs[i]! l), ⟨by dsimp only; omega, by dsimp only; omega, by dsimp only; omega, hz, ?_⟩, by dsimp only; omega⟩
      simp
  · have : xs.drop i = [] := List.drop_of_length_le (by omega)
    rw [this, szL] at hz
    (refine hQ _ ?_; simp only [vmA, Nat.reduceEqDiff, reduceIte, Nat.reduceAdd, Nat.reduceBEq, reduceCtorEq, Nat.reduceLT, Int.reduceLE, Int.reduceLT, Int.reduceEq, Nat.reduceMul, Nat.reduceLeDiff, Tryz.f69, retG, resL, St.closeVs, St.closeV, e1])
    rw [hz]
theorem f136 (v : Val) : Fx 136 [vA v] (vA v) := by
  refine fn_of false Tryz.func136 (by kernel_rfl) rfl (by kernel_rfl) (by kernel_rfl) (Nat.le_of_ble_eq_true rfl) rfl fun Q hQ => ?_
  simp only [vmA, Nat.reduceEqDiff, reduceIte, Nat.reduceAdd, Nat.reduceBEq, reduceCtorEq, Nat.reduceLT, Int.reduceLE, Int.reduceLT, Int.reduceEq, Nat.reduceMul, Nat.reduceLeDiff, vA]
  (refine hQ _ ?_; simp only [vmA, Nat.reduceEqDiff, reduceIte, Nat.reduceAdd, Nat.reduceBEq, reduceCtorEq, Nat.reduceLT, Int.reduceLE, Int.reduceLT, Int.reduceEq, Nat.reduceMul, Nat.reduceLeDiff, Tryz.f136, retG, resL, St.closeVs, St.closeV])
  rfl
theorem f74 (xs : List Val) (c : Bool) (hl : xs.length ≤ 1048576) : Fx 74 [.fro none c (xs.map vA)] (.own 3 (xs.map vA)) := by
  refine fn_of false Tryz.func74 (by kernel_rfl) rfl (by kernel_rfl) (by kernel_rfl) (Nat.le_of_ble_eq_true rfl) rfl fun Q hQ => ?_
  simp only [vmA, Nat.reduceEqDiff, reduceIte, Nat.reduceAdd, Nat.reduceBEq, reduceCtorEq, Nat.reduceLT, Int.reduceLE, Int.reduceLT, Int.reduceEq, Nat.reduceMul, Nat.reduceLeDiff]
  refine ⟨by omega, WT_loop (fun (i : Nat) σ => i ≤ xs.length ∧ σ.sl 0 = .fro none c (xs.map vA) ∧ σ.sl 4 = .int .i64 i ∧ σ.sl 3 = .hd 448 1 0 xs.length true ∧ (σ.en 448).live = true ∧ (σ.en 448).gen = 1 ∧ (σ.en 448).frz = false ∧ (σ.en 448).sz = 3 ∧ (σ.en 448).elems = upL vA (.agg [.int .i64 0, .int .i64 0, .str ⟨⟨[]⟩⟩]) xs i) (fun i => xs.length - i) 0 ?_ ?_⟩
  · simp [vmI, upL_zero]
  rintro i σ ⟨hi, e0, e4, e3, l1, l2, l3, l4, l5⟩
  simp only [vmA, Nat.reduceEqDiff, reduceIte, Nat.reduceAdd, Nat.reduceBEq, reduceCtorEq, Nat.reduceLT, Int.reduceLE, Int.reduceLT, Int.reduceEq, Nat.reduceMul, Nat.reduceLeDiff, e0, e4, e3, vA, l1, l2, l3, l4, l5, upL_length vA _ xs hi]
  refine ⟨fun hlt => ?_, fun hge => ?_⟩
  · refine ⟨hlt, by omega, callD (f136 xs[i]!) ?_⟩
    simp only [vmA, Nat.reduceEqDiff, reduceIte, Nat.reduceAdd, Nat.reduceBEq, reduceCtorEq, Nat.reduceLT, Int.reduceLE, Int.reduceLT, Int.reduceEq, Nat.reduceMul, Nat.reduceLeDiff, e0, e4, e3, vA, l1, l2, l3, l4, l5, upL_length vA _ xs hi, upL_get vA _ xs (show i < xs.length by omega), Nat.le_refl]
    refine ⟨hlt, i + 1, ⟨by omega, by rw [wr (by omega)]; rfl, ?_⟩, by omega⟩
    exact upL_set vA _ xs (by omega)
  · obtain rfl : i = xs.length := by omega
    (refine hQ _ ?_; simp only [vmA, Nat.reduceEqDiff, reduceIte, Nat.reduceAdd, Nat.reduceBEq, reduceCtorEq, Nat.reduceLT, Int.reduceLE, Int.reduceLT, Int.reduceEq, Nat.reduceMul, Nat.reduceLeDiff, Tryz.f74, retG, resL, St.closeVs, St.closeV, l1, l2, l3, l4, l5, upL_full, Nat.le_refl, List.take_length])
theorem f139 (v : Val) : Fx 139 [vA v, vA v] (.bool true) := by
  refine fn_of false Tryz.func139 (by kernel_rfl) rfl (by kernel_rfl) (by kernel_rfl) (Nat.le_of_ble_eq_true rfl) rfl fun Q hQ => ?_
  simp only [vmA, Nat.reduceEqDiff, reduceIte, Nat.reduceAdd, Nat.reduceBEq, reduceCtorEq, Nat.reduceLT, Int.reduceLE, Int.reduceLT, Int.reduceEq, Nat.reduceMul, Nat.reduceLeDiff, vA]
  (refine hQ _ ?_; simp only [vmA, Nat.reduceEqDiff, reduceIte, Nat.reduceAdd, Nat.reduceBEq, reduceCtorEq, Nat.reduceLT, Int.reduceLE, Int.reduceLT, Int.reduceEq, Nat.reduceMul, Nat.reduceLeDiff, Tryz.f139, retG, resL, St.closeVs, St.closeV])
theorem f78 (xs : List Val) (c c2 : Bool) (hl : xs.length ≤ 1048576) : Fx 78 [.fro none c (xs.map vA), .fro none c2 (xs.map vA)] (.bool true) := by
  refine fn_of false Tryz.func78 (by kernel_rfl) rfl (by kernel_rfl) (by kernel_rfl) (Nat.le_of_ble_eq_true rfl) rfl fun Q hQ => ?_
  simp only [vmA, Nat.reduceEqDiff, reduceIte, Nat.reduceAdd, Nat.reduceBEq, reduceCtorEq, Nat.reduceLT, Int.reduceLE, Int.reduceLT, Int.reduceEq, Nat.reduceMul, Nat.reduceLeDiff]
  refine WT_loop (fun (i : Nat) σ => i ≤ xs.length ∧ σ.sl 0 = .fro none c (xs.map vA) ∧ σ.sl 1 = .fro none c2 (xs.map vA) ∧ σ.sl 5 = .int .i64 i) (fun i => xs.length - i) 0 ⟨by omega, by simp [vmI], by simp [vmI], by simp [vmI]⟩ ?_
  rintro i σ ⟨hi, e0, e1, e5⟩
  simp only [vmA, Nat.reduceEqDiff, reduceIte, Nat.reduceAdd, Nat.reduceBEq, reduceCtorEq, Nat.reduceLT, Int.reduceLE, Int.reduceLT, Int.reduceEq, Nat.reduceMul, Nat.reduceLeDiff, e0, e1, e5, vA]
  refine ⟨fun hlt => ?_, fun hge => ?_⟩
  · refine ⟨hlt, by omega, hlt, by omega, callD (f139 xs[i]!) ?_⟩
    simp only [vmA, Nat.reduceEqDiff, reduceIte, Nat.reduceAdd, Nat.reduceBEq, reduceCtorEq, Nat.reduceLT, Int.reduceLE, Int.reduceLT, Int.reduceEq, Nat.reduceMul, Nat.reduceLeDiff, e0, e1, e5]
    refine ⟨i + 1, ⟨by omega, by rw [wr (by omega)]; rfl⟩, by omega⟩
  · (refine hQ _ ?_; simp only [vmA, Nat.reduceEqDiff, reduceIte, Nat.reduceAdd, Nat.reduceBEq, reduceCtorEq, Nat.reduceLT, Int.reduceLE, Int.reduceLT, Int.reduceEq, Nat.reduceMul, Nat.reduceLeDiff, Tryz.f78, retG, resL, St.closeVs, St.closeV])
theorem f141p (k : Int) (hk : k ≤ 4611686018427387904) : Fx 141 [.int .i64 k] (.str (mkT k)) := by
  refine fn_of false Tryz.func141 (by kernel_rfl) rfl (by kernel_rfl) (by kernel_rfl) (Nat.le_of_ble_eq_true rfl) rfl fun Q hQ => ?_
  simp only [vmA, Nat.reduceEqDiff, reduceIte, Nat.reduceAdd, Nat.reduceBEq, reduceCtorEq, Nat.reduceLT, Int.reduceLE, Int.reduceLT, Int.reduceEq, Nat.reduceMul, Nat.reduceLeDiff]
  refine ⟨fun h => ?_, fun h => ?_⟩
  · (refine hQ _ ?_; simp only [vmA, Nat.reduceEqDiff, reduceIte, Nat.reduceAdd, Nat.reduceBEq, reduceCtorEq, Nat.reduceLT, Int.reduceLE, Int.reduceLT, Int.reduceEq, Nat.reduceMul, Nat.reduceLeDiff, Tryz.f141, retG, resL, St.closeVs, St.closeV])
    rw [mkT, if_pos (by omega)]
  refine WT_loop (fun (p : Int × ByteArray) σ => (0 ≤ p.1 ∧ p.1 + p.2.size ≤ k ∧ mkD p.1 p.2 = mkD k ⟨⟨[]⟩⟩) ∧ σ.sl 0 = .int .i64 p.1 ∧ σ.sl 3 = .str p.2) (fun p => p.1.toNat) (k, ⟨⟨[]⟩⟩) ⟨⟨by dsimp only; omega, by dsimp only; show k + ((0 : Nat) : Int) ≤ k; omega, rfl⟩, by simp [vmI], by simp [vmI]⟩ ?_
  rintro ⟨m, s⟩ σ ⟨⟨h0, h1, h2⟩, e0, e3⟩
  dsimp only at h0 h1 h2 e0 e3
  simp only [vmA, Nat.reduceEqDiff, reduceIte, Nat.reduceAdd, Nat.reduceBEq, reduceCtorEq, Nat.reduceLT, Int.reduceLE, Int.reduceLT, Int.reduceEq, Nat.reduceMul, Nat.reduceLeDiff, e0, e3, ↓cv22, convS, bytesL, intsOf, Int.reduceEq, Option.map_some]
  refine ⟨fun hlt => ?_, fun hge => ?_⟩
  · rw [binStr_add _ _ (by rw [textOf_one]; omega)]
    simp only [vmA, Nat.reduceEqDiff, reduceIte, Nat.reduceAdd, Nat.reduceBEq, reduceCtorEq, Nat.reduceLT, Int.reduceLE, Int.reduceLT, Int.reduceEq, Nat.reduceMul, Nat.reduceLeDiff, e0, e3, Int.reduceEq]
    have hq : 0 ≤ m.tdiv 10 ∧ m.tdiv 10 ≤ m - 1 := by
      rw [Int.tdiv_eq_ediv_of_nonneg (by omega)]
      omega
    rw [wr (x := m.tdiv 10) (by omega)]
    refine ⟨(m.tdiv 10, _ ++ s), ⟨⟨by dsimp only; omega, ?_, ?_⟩, rfl, rfl⟩, by dsimp only; omega⟩
    · dsimp only
      rw [ByteArray.size_append, textOf_one]
      omega
    · rw [← h2]
      conv => rhs; rw [mkD, dif_neg (by omega)]
  · rw [binStr_add _ _ (show 1 + s.size ≤ _ by omega)]
    simp only [vmA, Nat.reduceEqDiff, reduceIte, Nat.reduceAdd, Nat.reduceBEq, reduceCtorEq, Nat.reduceLT, Int.reduceLE, Int.reduceLT, Int.reduceEq, Nat.reduceMul, Nat.reduceLeDiff, e0, e3]
    (refine hQ _ ?_; simp only [vmA, Nat.reduceEqDiff, reduceIte, Nat.reduceAdd, Nat.reduceBEq, reduceCtorEq, Nat.reduceLT, Int.reduceLE, Int.reduceLT, Int.reduceEq, Nat.reduceMul, Nat.reduceLeDiff, Tryz.f141, retG, resL, St.closeVs, St.closeV, e0, e3])
    rw [mkT, if_neg (by omega), ← h2, mkD, dif_pos (by omega)]
theorem f81p (xs : List Val) (k : Int) (hk : 0 ≤ k) (hl : k + 3 * xs.length ≤ 4611686018427387904) : FxR 81 [.own 3 (xs.map vA), .int .i64 k] fun r l => r = .int .i64 (k + 3 * xs.length) ∧ l = .own 3 ((mkVs xs.length k).map vA) := by
  refine fn_ofW false (k := 0) Tryz.func81 (by kernel_rfl) rfl (by kernel_rfl) (by kernel_rfl) (Nat.le_of_ble_eq_true rfl) rfl ⟨_, _, .inl rfl⟩ rfl fun Q hQ => ?_
  simp only [vmA, Nat.reduceEqDiff, reduceIte, Nat.reduceAdd, Nat.reduceBEq, reduceCtorEq, Nat.reduceLT, Int.reduceLE, Int.reduceLT, Int.reduceEq, Nat.reduceMul, Nat.reduceLeDiff, List.length_map]
  refine WT_loop (fun (p : Nat × List Val) σ => (p.1 ≤ xs.length ∧ p.2.length = xs.length ∧ ∀ j, j < p.1 → p.2[j]! = mkV1 k j) ∧ σ.sl 0 = .hd 0 1 0 xs.length false ∧ (σ.en 0).live = true ∧ (σ.en 0).gen = 1 ∧ (σ.en 0).frz = false ∧ (σ.en 0).sz = 3 ∧ (σ.en 0).elems = p.2.map vA ∧ σ.sl 1 = .int .i64 (k + 3 * p.1) ∧ σ.sl 5 = .int .i64 p.1) (fun p => xs.length - p.1) (0, xs) ⟨⟨by simp, rfl, by simp⟩, by simp [vmI], by simp [vmI], by simp [vmI], by simp [vmI], by simp [vmI], by simp [vmI], by simp [vmI], by simp [vmI]⟩ ?_
  rintro ⟨i, ys⟩ σ ⟨⟨hi, hyl, hy⟩, e0, l1, l2, l3, l4, l5, e1, e5⟩
  dsimp only at hi hyl hy l5 e1 e5
  simp only [vmA, Nat.reduceEqDiff, reduceIte, Nat.reduceAdd, Nat.reduceBEq, reduceCtorEq, Nat.reduceLT, Int.reduceLE, Int.reduceLT, Int.reduceEq, Nat.reduceMul, Nat.reduceLeDiff, e0, l1, l2, l3, l4, l5, e1, e5, List.length_map, hyl, vA, set_vA]
  refine ⟨fun hlt => ⟨hlt, by omega, ?_, ?_, ?_⟩, fun hge => ?_⟩
  · simp <;> omega
  · simp <;> omega
  · simp (disch := omega) only [wr]
    refine callD (f141p _ (by omega)) ?_
    simp only [vmA, Nat.reduceEqDiff, reduceIte, Nat.reduceAdd, Nat.reduceBEq, reduceCtorEq, Nat.reduceLT, Int.reduceLE, Int.reduceLT, Int.reduceEq, Nat.reduceMul, Nat.reduceLeDiff, e0, l1, l2, l3, l4, l5, e1, e5, List.length_map, hyl, vA, set_vA, List.length_set]
    simp (disch := omega) only [wr]
    refine ⟨hlt, by omega, (i + 1, ys.set i (mkV1 k i)), ⟨⟨by dsimp only; omega, by simpa using hyl, mk_set _ (by omega) hy⟩, ?_, leafJ (by dsimp only; omega), rfl⟩, by dsimp only; omega⟩
    simp only [List.set_set, get_set ys i _ (show i < ys.length by omega), mkV1]
    rw [Int.add_assoc _ 1 1]
    rfl
  · (refine hQ _ ?_; simp only [vmA, Nat.reduceEqDiff, reduceIte, Nat.reduceAdd, Nat.reduceBEq, reduceCtorEq, Nat.reduceLT, Int.reduceLE, Int.reduceLT, Int.reduceEq, Nat.reduceMul, Nat.reduceLeDiff, Tryz.f81, retG, resL, St.closeVs, St.closeV, leftV, ghostW, e0, l1, l2, l3, l4, l5, e1, e5, List.length_map, hyl])
    obtain rfl : i = xs.length := by omega
    refine ⟨rfl, ?_⟩
    rw [List.take_of_length_le (by simp; omega), mk_all _ hyl hy]
    rfl
