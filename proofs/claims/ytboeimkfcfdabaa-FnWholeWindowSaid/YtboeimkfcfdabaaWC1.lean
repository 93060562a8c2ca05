/- WALK of functions of the seat, or plain laws for it: each theorem f<k> says what function k returns, for every world and all arguments that stand for the values named. Conditions: none but those ahead of each theorem. -/
import Derived.Test.YtboeimkfcfdabaaWC0
import Derived.Test.YtboeimkfcfdabaaWB3
open Go Go.Vm Go.Proofs
set_option maxRecDepth 100000
set_option maxHeartbeats 8000000
set_option linter.unusedSimpArgs false
set_option linter.unusedVariables false
theorem f79 (n : Int) : Fx 79 [.int .i64 n] (.bool false) := by
  refine fn_of false Try.func79 (by kernel_rfl) rfl (by kernel_rfl) (by kernel_rfl) (Nat.le_of_ble_eq_true rfl) rfl fun Q hQ => ?_
  simp only [vmA, Nat.reduceEqDiff, reduceIte, Nat.reduceAdd, Nat.reduceBEq, reduceCtorEq, Nat.reduceLT, Int.reduceLE, Int.reduceLT, Int.reduceEq, Nat.reduceMul, Nat.reduceLeDiff]
  (refine hQ _ ?_; simp only [vmA, Nat.reduceEqDiff, reduceIte, Nat.reduceAdd, Nat.reduceBEq, reduceCtorEq, Nat.reduceLT, Int.reduceLE, Int.reduceLT, Int.reduceEq, Nat.reduceMul, Nat.reduceLeDiff, Try.f79, retG, resL, St.closeVs, St.closeV])
theorem f80 (s : ByteArray) : Fx 80 [.str s] (.bool false) := by
  refine fn_of false Try.func80 (by kernel_rfl) rfl (by kernel_rfl) (by kernel_rfl) (Nat.le_of_ble_eq_true rfl) rfl fun Q hQ => ?_
  simp only [vmA, Nat.reduceEqDiff, reduceIte, Nat.reduceAdd, Nat.reduceBEq, reduceCtorEq, Nat.reduceLT, Int.reduceLE, Int.reduceLT, Int.reduceEq, Nat.reduceMul, Nat.reduceLeDiff]
  (refine hQ _ ?_; simp only [vmA, Nat.reduceEqDiff, reduceIte, Nat.reduceAdd, Nat.reduceBEq, reduceCtorEq, Nat.reduceLT, Int.reduceLE, Int.reduceLT, Int.reduceEq, Nat.reduceMul, Nat.reduceLeDiff, Try.f80, retG, resL, St.closeVs, St.closeV])
theorem f43 (a b : Int) : Fx 43 [.int .i64 a, .int .i64 b] (.int .i64 (iCmp a b)) := by
  refine fn_of false Try.func43 (by kernel_rfl) rfl (by kernel_rfl) (by kernel_rfl) (Nat.le_of_ble_eq_true rfl) rfl fun Q hQ => ?_
  simp only [vmA, Nat.reduceEqDiff, reduceIte, Nat.reduceAdd, Nat.reduceBEq, reduceCtorEq, Nat.reduceLT, Int.reduceLE, Int.reduceLT, Int.reduceEq, Nat.reduceMul, Nat.reduceLeDiff]
  refine callD (f79 a) ?_
  simp only [vmA, Nat.reduceEqDiff, reduceIte, Nat.reduceAdd, Nat.reduceBEq, reduceCtorEq, Nat.reduceLT, Int.reduceLE, Int.reduceLT, Int.reduceEq, Nat.reduceMul, Nat.reduceLeDiff]
  refine callD (f79 b) ?_
  simp only [vmA, Nat.reduceEqDiff, reduceIte, Nat.reduceAdd, Nat.reduceBEq, reduceCtorEq, Nat.reduceLT, Int.reduceLE, Int.reduceLT, Int.reduceEq, Nat.reduceMul, Nat.reduceLeDiff]
  refine ⟨fun h => ?_, fun h => ⟨fun h2 => ?_, fun h2 => ?_⟩⟩ <;> (refine hQ _ ?_; simp only [vmA, Nat.reduceEqDiff, reduceIte, Nat.reduceAdd, Nat.reduceBEq, reduceCtorEq, Nat.reduceLT, Int.reduceLE, Int.reduceLT, Int.reduceEq, Nat.reduceMul, Nat.reduceLeDiff, Try.f43, retG, resL, St.closeVs, St.closeV]) <;> refine leafJ ?_ <;> unfold iCmp
  · rw [if_pos h]
  · rw [if_neg h, if_pos h2]
  · rw [if_neg h, if_neg h2]
theorem f44 (a b : ByteArray) : Fx 44 [.str a, .str b] (.int .i64 (sCmp a b)) := by
  refine fn_of false Try.func44 (by kernel_rfl) rfl (by kernel_rfl) (by kernel_rfl) (Nat.le_of_ble_eq_true rfl) rfl fun Q hQ => ?_
  simp only [vmA, Nat.reduceEqDiff, reduceIte, Nat.reduceAdd, Nat.reduceBEq, reduceCtorEq, Nat.reduceLT, Int.reduceLE, Int.reduceLT, Int.reduceEq, Nat.reduceMul, Nat.reduceLeDiff]
  refine callD (f80 a) ?_
  simp only [vmA, Nat.reduceEqDiff, reduceIte, Nat.reduceAdd, Nat.reduceBEq, reduceCtorEq, Nat.reduceLT, Int.reduceLE, Int.reduceLT, Int.reduceEq, Nat.reduceMul, Nat.reduceLeDiff]
  refine callD (f80 b) ?_
  simp only [vmA, Nat.reduceEqDiff, reduceIte, Nat.reduceAdd, Nat.reduceBEq, reduceCtorEq, Nat.reduceLT, Int.reduceLE, Int.reduceLT, Int.reduceEq, Nat.reduceMul, Nat.reduceLeDiff, binStr_lss, binStr_gtr]
  refine ⟨fun h => ?_, fun h => ⟨fun h2 => ?_, fun h2 => ?_⟩⟩ <;> (refine hQ _ ?_; simp only [vmA, Nat.reduceEqDiff, reduceIte, Nat.reduceAdd, Nat.reduceBEq, reduceCtorEq, Nat.reduceLT, Int.reduceLE, Int.reduceLT, Int.reduceEq, Nat.reduceMul, Nat.reduceLeDiff, Try.f44, retG, resL, St.closeVs, St.closeV]) <;> refine leafJ ?_ <;> unfold sCmp
  · rw [if_pos h]
  · rw [if_neg h, if_pos h2]
  · rw [if_neg h, if_neg h2]
theorem f42 (xs : List Int) (c : Bool) (hl : xs.length ≤ 1048576) : Fx 42 [.fro none c (xs.map iA)] (.int .i64 (or0L xs)) := by
  refine fn_of false Try.func42 (by kernel_rfl) rfl (by kernel_rfl) (by kernel_rfl) (Nat.le_of_ble_eq_true rfl) rfl fun Q hQ => ?_
  simp only [vmA, Nat.reduceEqDiff, reduceIte, Nat.reduceAdd, Nat.reduceBEq, reduceCtorEq, Nat.reduceLT, Int.reduceLE, Int.reduceLT, Int.reduceEq, Nat.reduceMul, Nat.reduceLeDiff, List.length_map]
  refine WT_loop (fun (i : Nat) σ => (i ≤ xs.length ∧ or0L (xs.drop i) = or0L xs) ∧ σ.sl 6 = .fro none c (xs.map iA) ∧ σ.sl 3 = .int .i64 0 ∧ σ.sl 7 = .int .i64 xs.length ∧ σ.sl 8 = .int .i64 i) (fun i => xs.length - i) 0 ⟨⟨by omega, rfl⟩, by simp [put_sl, put_en, put_none, init_sl, fresh_sl, fresh_en, ent_sl, ent_en, init_en], by simp [put_sl, put_en, put_none, init_sl, fresh_sl, fresh_en, ent_sl, ent_en, init_en], by simp [put_sl, put_en, put_none, init_sl, fresh_sl, fresh_en, ent_sl, ent_en, init_en], by simp [put_sl, put_en, put_none, init_sl, fresh_sl, fresh_en, ent_sl, ent_en, init_en]⟩ ?_
  rintro i σ ⟨⟨hi, hz⟩, e6, e3, e7, e8⟩
  simp only [vmA, Nat.reduceEqDiff, reduceIte, Nat.reduceAdd, Nat.reduceBEq, reduceCtorEq, Nat.reduceLT, Int.reduceLE, Int.reduceLT, Int.reduceEq, Nat.reduceMul, Nat.reduceLeDiff, e6, e3, e7, e8, List.length_map]
  refine ⟨fun hlt => ?_, fun hge => ?_⟩
  · have hd : xs.drop i = xs[i]! :: xs.drop (i + 1) := by rw [List.drop_eq_getElem_cons (by omega), getElem!_pos xs i (by omega)]
    rw [hd, or0L] at hz
    refine ⟨hlt, by omega, fun h0 => ?_, fun h0 => ?_⟩
    · (refine hQ _ ?_; simp only [vmA, Nat.reduceEqDiff, reduceIte, Nat.reduceAdd, Nat.reduceBEq, reduceCtorEq, Nat.reduceLT, Int.reduceLE, Int.reduceLT, Int.reduceEq, Nat.reduceMul, Nat.reduceLeDiff, Try.f42, retG, resL, St.closeVs, St.closeV])
      rw [if_neg h0] at hz
      exact leafJ hz
    · rw [if_pos (by simpa using h0)] at hz
      rw [wr (by omega)]
      exact ⟨i + 1, ⟨⟨by omega, hz⟩, rfl⟩, by omega⟩
  · have : xs.drop i = [] := List.drop_of_length_le (by omega)
    rw [this, or0L] at hz
    (refine hQ _ ?_; simp only [vmA, Nat.reduceEqDiff, reduceIte, Nat.reduceAdd, Nat.reduceBEq, reduceCtorEq, Nat.reduceLT, Int.reduceLE, Int.reduceLT, Int.reduceEq, Nat.reduceMul, Nat.reduceLeDiff, Try.f42, retG, resL, St.closeVs, St.closeV, e3])
    rw [hz]
theorem or0L3 (a b c : Int) : or0L [a, b, c] = if a = 0 then if b = 0 then c else b else a := by
  simp only [or0L]
  split <;> (try split) <;> (try split) <;> omega
theorem or0L2 (a b : Int) : or0L [a, b] = if a = 0 then b else a := by
  simp only [or0L]
  split <;> (try split) <;> omega
theorem f16 (v w : Val) : Fx 16 [vA v, vA w] (.int .i64 (vCmp v w)) := by
  refine fn_ofX ⟨false, [], [(1, [], [])]⟩ Try.func16 (by kernel_rfl) rfl (by kernel_rfl) (by kernel_rfl) (Nat.le_of_ble_eq_true rfl) rfl fun Q hQ => ?_
  simp only [tr_seq, tr_block, tr_loop, tr_cond, tr_skip, tr_exit, tr_ret, tr_reg]
  rw [tr_cut 15 (by kernel_rfl)]
  simp only [vmA, Nat.reduceEqDiff, reduceIte, Nat.reduceAdd, Nat.reduceBEq, reduceCtorEq, Nat.reduceLT, Int.reduceLE, Int.reduceLT, Int.reduceEq, Nat.reduceMul, Nat.reduceLeDiff, vA]
  refine callD (f43 v.k w.k) ?_
  simp only [vmA, Nat.reduceEqDiff, reduceIte, Nat.reduceAdd, Nat.reduceBEq, reduceCtorEq, Nat.reduceLT, Int.reduceLE, Int.reduceLT, Int.reduceEq, Nat.reduceMul, Nat.reduceLeDiff, vA]
  refine callD (f43 v.n w.n) ?_
  simp only [vmA, Nat.reduceEqDiff, reduceIte, Nat.reduceAdd, Nat.reduceBEq, reduceCtorEq, Nat.reduceLT, Int.reduceLE, Int.reduceLT, Int.reduceEq, Nat.reduceMul, Nat.reduceLeDiff, vA]
  refine callD (f44 v.s w.s) ?_
  simp only [vmA, Nat.reduceEqDiff, reduceIte, Nat.reduceAdd, Nat.reduceBEq, reduceCtorEq, Nat.reduceLT, Int.reduceLE, Int.reduceLT, Int.reduceEq, Nat.reduceMul, Nat.reduceLeDiff, vA]
  refine callD (f42 [iCmp v.k w.k, iCmp v.n w.n, sCmp v.s w.s] true (by simp)) ?_
  simp only [vmA, Nat.reduceEqDiff, reduceIte, Nat.reduceAdd, Nat.reduceBEq, reduceCtorEq, Nat.reduceLT, Int.reduceLE, Int.reduceLT, Int.reduceEq, Nat.reduceMul, Nat.reduceLeDiff]
  (refine hQ _ ?_; simp only [vmA, Nat.reduceEqDiff, reduceIte, Nat.reduceAdd, Nat.reduceBEq, reduceCtorEq, Nat.reduceLT, Int.reduceLE, Int.reduceLT, Int.reduceEq, Nat.reduceMul, Nat.reduceLeDiff, Try.f16, retG, resL, St.closeVs, St.closeV])
  refine leafJ ?_
  rw [or0L3]
  rfl
theorem f41 (x y : List Val) (c d : Bool) (hx : 2 ≤ x.length) (hy : 2 ≤ y.length) : Fx 41 [.fro none c (x.map vA), .fro none d (y.map vA)] (.int .i64 (rowCmp x y)) := by
  refine fn_ofX ⟨false, [], [(1, [], [])]⟩ Try.func41 (by kernel_rfl) rfl (by kernel_rfl) (by kernel_rfl) (Nat.le_of_ble_eq_true rfl) rfl fun Q hQ => ?_
  simp only [tr_seq, tr_block, tr_loop, tr_cond, tr_skip, tr_exit, tr_ret, tr_reg]
  rw [tr_cut 14 (by kernel_rfl)]
  simp only [vmA, Nat.reduceEqDiff, reduceIte, Nat.reduceAdd, Nat.reduceBEq, reduceCtorEq, Nat.reduceLT, Int.reduceLE, Int.reduceLT, Int.reduceEq, Nat.reduceMul, Nat.reduceLeDiff, vA, List.length_map, Int.toNat_zero, Int.toNat_one]
  refine ⟨by omega, by omega, by omega, by omega, callD (f16 x[0]! y[0]!) ?_⟩
  simp only [vmA, Nat.reduceEqDiff, reduceIte, Nat.reduceAdd, Nat.reduceBEq, reduceCtorEq, Nat.reduceLT, Int.reduceLE, Int.reduceLT, Int.reduceEq, Nat.reduceMul, Nat.reduceLeDiff, vA, List.length_map, Int.toNat_zero, Int.toNat_one]
  refine ⟨by omega, by omega, by omega, by omega, callD (f16 x[1]! y[1]!) ?_⟩
  simp only [vmA, Nat.reduceEqDiff, reduceIte, Nat.reduceAdd, Nat.reduceBEq, reduceCtorEq, Nat.reduceLT, Int.reduceLE, Int.reduceLT, Int.reduceEq, Nat.reduceMul, Nat.reduceLeDiff, vA, List.length_map]
  refine callD (f42 [vCmp x[0]! y[0]!, vCmp x[1]! y[1]!] true (by simp)) ?_
  simp only [vmA, Nat.reduceEqDiff, reduceIte, Nat.reduceAdd, Nat.reduceBEq, reduceCtorEq, Nat.reduceLT, Int.reduceLE, Int.reduceLT, Int.reduceEq, Nat.reduceMul, Nat.reduceLeDiff]
  (refine hQ _ ?_; simp only [vmA, Nat.reduceEqDiff, reduceIte, Nat.reduceAdd, Nat.reduceBEq, reduceCtorEq, Nat.reduceLT, Int.reduceLE, Int.reduceLT, Int.reduceEq, Nat.reduceMul, Nat.reduceLeDiff, Try.f41, retG, resL, St.closeVs, St.closeV])
  refine leafJ ?_
  rw [or0L2]
  rfl
theorem f47 (a b : Int) : Fx 47 [.int .i64 a, .int .i64 b] (.int .i64 (if a < b then 1 else 0)) := by
  refine fn_of false Try.func47 (by kernel_rfl) rfl (by kernel_rfl) (by kernel_rfl) (Nat.le_of_ble_eq_true rfl) rfl fun Q hQ => ?_
  simp only [vmA, Nat.reduceEqDiff, reduceIte, Nat.reduceAdd, Nat.reduceBEq, reduceCtorEq, Nat.reduceLT, Int.reduceLE, Int.reduceLT, Int.reduceEq, Nat.reduceMul, Nat.reduceLeDiff]
  refine ⟨fun h => ?_, fun h => ?_⟩ <;> (refine hQ _ ?_; simp only [vmA, Nat.reduceEqDiff, reduceIte, Nat.reduceAdd, Nat.reduceBEq, reduceCtorEq, Nat.reduceLT, Int.reduceLE, Int.reduceLT, Int.reduceEq, Nat.reduceMul, Nat.reduceLeDiff, Try.f47, retG, resL, St.closeVs, St.closeV]) <;> refine leafJ ?_
  · rw [if_pos h]
  · rw [if_neg h]
theorem f48 (a b : ByteArray) : Fx 48 [.str a, .str b] (.int .i64 (sCmp a b)) := by
  refine fn_of false Try.func48 (by kernel_rfl) rfl (by kernel_rfl) (by kernel_rfl) (Nat.le_of_ble_eq_true rfl) rfl fun Q hQ => ?_
  simp only [vmA, Nat.reduceEqDiff, reduceIte, Nat.reduceAdd, Nat.reduceBEq, reduceCtorEq, Nat.reduceLT, Int.reduceLE, Int.reduceLT, Int.reduceEq, Nat.reduceMul, Nat.reduceLeDiff, binStr_lss, binStr_gtr]
  refine ⟨fun h => ?_, fun h => ⟨fun h2 => ?_, fun h2 => ?_⟩⟩ <;> (refine hQ _ ?_; simp only [vmA, Nat.reduceEqDiff, reduceIte, Nat.reduceAdd, Nat.reduceBEq, reduceCtorEq, Nat.reduceLT, Int.reduceLE, Int.reduceLT, Int.reduceEq, Nat.reduceMul, Nat.reduceLeDiff, Try.f48, retG, resL, St.closeVs, St.closeV]) <;> refine leafJ ?_ <;> unfold sCmp
  · rw [if_pos h]
  · rw [if_neg h, if_pos h2]
  · rw [if_neg h, if_neg h2]
theorem f18 (v w : Val) (hv : valP v) (hw : valP w) (h1 : okV v) (h2 : okV w) : Fx 18 [vA v, vA w] (.int .i64 (vCmp v w)) := by
  refine fn_of false Try.func18 (by kernel_rfl) rfl (by kernel_rfl) (by kernel_rfl) (Nat.le_of_ble_eq_true rfl) rfl fun Q hQ => ?_
  simp only [vmA, Nat.reduceEqDiff, reduceIte, Nat.reduceAdd, Nat.reduceBEq, reduceCtorEq, Nat.reduceLT, Int.reduceLE, Int.reduceLT, Int.reduceEq, Nat.reduceMul, Nat.reduceLeDiff, vA]
  refine callD (f46 v h1) ?_
  simp only [vmA, Nat.reduceEqDiff, reduceIte, Nat.reduceAdd, Nat.reduceBEq, reduceCtorEq, Nat.reduceLT, Int.reduceLE, Int.reduceLT, Int.reduceEq, Nat.reduceMul, Nat.reduceLeDiff, vA, hv]
  refine callD (f46 w h2) ?_
  simp only [vmA, Nat.reduceEqDiff, reduceIte, Nat.reduceAdd, Nat.reduceBEq, reduceCtorEq, Nat.reduceLT, Int.reduceLE, Int.reduceLT, Int.reduceEq, Nat.reduceMul, Nat.reduceLeDiff, vA, hw]
  refine ⟨fun hk => callD (f47 w.k v.k) ?_, fun hk => ⟨fun hn => callD (f47 w.n v.n) ?_, fun hn => callD (f48 v.s w.s) ?_⟩⟩
  · simp only [vmA, Nat.reduceEqDiff, reduceIte, Nat.reduceAdd, Nat.reduceBEq, reduceCtorEq, Nat.reduceLT, Int.reduceLE, Int.reduceLT, Int.reduceEq, Nat.reduceMul, Nat.reduceLeDiff]
    (refine hQ _ ?_; simp only [vmA, Nat.reduceEqDiff, reduceIte, Nat.reduceAdd, Nat.reduceBEq, reduceCtorEq, Nat.reduceLT, Int.reduceLE, Int.reduceLT, Int.reduceEq, Nat.reduceMul, Nat.reduceLeDiff, Try.f18, retG, resL, St.closeVs, St.closeV])
    refine leafJ ?_
    rw [vCmp_k (by simpa using hk)]
    exact (iCmp_two (by simpa using hk)).1
  · simp only [vmA, Nat.reduceEqDiff, reduceIte, Nat.reduceAdd, Nat.reduceBEq, reduceCtorEq, Nat.reduceLT, Int.reduceLE, Int.reduceLT, Int.reduceEq, Nat.reduceMul, Nat.reduceLeDiff]
    (refine hQ _ ?_; simp only [vmA, Nat.reduceEqDiff, reduceIte, Nat.reduceAdd, Nat.reduceBEq, reduceCtorEq, Nat.reduceLT, Int.reduceLE, Int.reduceLT, Int.reduceEq, Nat.reduceMul, Nat.reduceLeDiff, Try.f18, retG, resL, St.closeVs, St.closeV])
    refine leafJ ?_
    rw [vCmp_n (by simpa using hk) (by simpa using hn)]
    exact (iCmp_two (by simpa using hn)).1
  · simp only [vmA, Nat.reduceEqDiff, reduceIte, Nat.reduceAdd, Nat.reduceBEq, reduceCtorEq, Nat.reduceLT, Int.reduceLE, Int.reduceLT, Int.reduceEq, Nat.reduceMul, Nat.reduceLeDiff]
    (refine hQ _ ?_; simp only [vmA, Nat.reduceEqDiff, reduceIte, Nat.reduceAdd, Nat.reduceBEq, reduceCtorEq, Nat.reduceLT, Int.reduceLE, Int.reduceLT, Int.reduceEq, Nat.reduceMul, Nat.reduceLeDiff, Try.f18, retG, resL, St.closeVs, St.closeV])
    refine leafJ ?_
    rw [vCmp_s (by simpa using hk) (by simpa using hn)]
def winP (r : List Val) : Prop := r.length = 3 ∧ rowP r ∧ (r[2]!.k = 1 ∨ r[2]!.k = 0)
instance (r : List Val) : Decidable (winP r) := by unfold winP; exact inferInstance
theorem winP.at {r : List Val} (h : winP r) {i : Nat} (hi : i < 3) : valP r[i]! := h.2.1.2 _ (by
  have := h.1
  rw [getElem!_pos r i (by omega)]; exact List.getElem_mem _)
theorem okR.at {r : List Val} (h : okR r) {i : Nat} (hi : i < r.length) : okV r[i]! := h.2 _ (by
  rw [getElem!_pos r i hi]; exact List.getElem_mem _)
theorem f27 (x y : List Val) (c d : Bool) (hx : winP x) (hy : winP y) (ox : okR x) (oy : okR y) : Fx 27 [.fro none c (x.map vA), .fro none d (y.map vA)] (.int .i64 (rowCmp x y)) := by
  have h1 := hx.1
  have h2 := hy.1
  refine fn_of false Try.func27 (by kernel_rfl) rfl (by kernel_rfl) (by kernel_rfl) (Nat.le_of_ble_eq_true rfl) rfl fun Q hQ => ?_
  simp only [vmA, Nat.reduceEqDiff, reduceIte, Nat.reduceAdd, Nat.reduceBEq, reduceCtorEq, Nat.reduceLT, Int.reduceLE, Int.reduceLT, Int.reduceEq, Nat.reduceMul, Nat.reduceLeDiff, vA, List.length_map, Int.toNat_zero, Int.toNat_one]
  refine ⟨by omega, by omega, by omega, by omega, callD (f18 x[0]! y[0]! (hx.at (by omega)) (hy.at (by omega)) (ox.at (by omega)) (oy.at (by omega))) ?_⟩
  simp only [vmA, Nat.reduceEqDiff, reduceIte, Nat.reduceAdd, Nat.reduceBEq, reduceCtorEq, Nat.reduceLT, Int.reduceLE, Int.reduceLT, Int.reduceEq, Nat.reduceMul, Nat.reduceLeDiff, vA, List.length_map, Int.toNat_zero, Int.toNat_one]
  refine ⟨fun hne => ?_, fun he => ?_⟩
  · (refine hQ _ ?_; simp only [vmA, Nat.reduceEqDiff, reduceIte, Nat.reduceAdd, Nat.reduceBEq, reduceCtorEq, Nat.reduceLT, Int.reduceLE, Int.reduceLT, Int.reduceEq, Nat.reduceMul, Nat.reduceLeDiff, Try.f27, retG, resL, St.closeVs, St.closeV])
    refine leafJ ?_
    unfold rowCmp or0
    rw [if_neg (by simpa using hne)]
  · refine ⟨by omega, by omega, by omega, by omega, callD (f18 x[1]! y[1]! (hx.at (by omega)) (hy.at (by omega)) (ox.at (by omega)) (oy.at (by omega))) ?_⟩
    simp only [vmA, Nat.reduceEqDiff, reduceIte, Nat.reduceAdd, Nat.reduceBEq, reduceCtorEq, Nat.reduceLT, Int.reduceLE, Int.reduceLT, Int.reduceEq, Nat.reduceMul, Nat.reduceLeDiff]
    (refine hQ _ ?_; simp only [vmA, Nat.reduceEqDiff, reduceIte, Nat.reduceAdd, Nat.reduceBEq, reduceCtorEq, Nat.reduceLT, Int.reduceLE, Int.reduceLT, Int.reduceEq, Nat.reduceMul, Nat.reduceLeDiff, Try.f27, retG, resL, St.closeVs, St.closeV])
    refine leafJ ?_
    unfold rowCmp or0
    rw [if_pos (by simpa using he)]
theorem leafT {q : Prop} [Decidable q] (h : q) : AV.bool true = AV.bool (decide q) := by rw [decide_eq_true h]
theorem f26 (r : List Val) (c : Bool) (ho : okR r) : Fx 26 [.fro none c (r.map vA)] (.bool (decide (winP r))) := by
  refine fn_of false Try.func26 (by kernel_rfl) rfl (by kernel_rfl) (by kernel_rfl) (Nat.le_of_ble_eq_true rfl) rfl fun Q hQ => ?_
  simp only [vmA, Nat.reduceEqDiff, reduceIte, Nat.reduceAdd, Nat.reduceBEq, reduceCtorEq, Nat.reduceLT, Int.reduceLE, Int.reduceLT, Int.reduceEq, Nat.reduceMul, Nat.reduceLeDiff]
  refine callD (f65 r c ho.1 ho.2) ?_
  by_cases hr : rowP r
  · by_cases hl : r.length = 3
    · have h2 : ((r.length : Int) = 3) = True := eq_true (by omega)
      have h3 : ((2 : Int) < r.length) = True := eq_true (by omega)
      have h4 : (2 < r.length) = True := eq_true (by omega)
      by_cases k1 : r[2]!.k = 1
      · simp only [vmA, Nat.reduceEqDiff, reduceIte, Nat.reduceAdd, Nat.reduceBEq, reduceCtorEq, Nat.reduceLT, Int.reduceLE, Int.reduceLT, Int.reduceEq, Nat.reduceMul, Nat.reduceLeDiff, vA, List.length_map, hr, h2, h3, h4, k1, show Int.toNat 2 = 2 from rfl]
        (refine hQ _ ?_; simp only [vmA, Nat.reduceEqDiff, reduceIte, Nat.reduceAdd, Nat.reduceBEq, reduceCtorEq, Nat.reduceLT, Int.reduceLE, Int.reduceLT, Int.reduceEq, Nat.reduceMul, Nat.reduceLeDiff, Try.f26, retG, resL, St.closeVs, St.closeV])
        exact leafT ⟨hl, hr, .inl k1⟩
      · simp only [vmA, Nat.reduceEqDiff, reduceIte, Nat.reduceAdd, Nat.reduceBEq, reduceCtorEq, Nat.reduceLT, Int.reduceLE, Int.reduceLT, Int.reduceEq, Nat.reduceMul, Nat.reduceLeDiff, vA, List.length_map, hr, h2, h3, h4, k1, show Int.toNat 2 = 2 from rfl]
        (refine hQ _ ?_; simp only [vmA, Nat.reduceEqDiff, reduceIte, Nat.reduceAdd, Nat.reduceBEq, reduceCtorEq, Nat.reduceLT, Int.reduceLE, Int.reduceLT, Int.reduceEq, Nat.reduceMul, Nat.reduceLeDiff, Try.f26, retG, resL, St.closeVs, St.closeV])
        exact leafB ⟨fun h => ⟨hl, hr, .inr h⟩, fun h => h.2.2.resolve_left k1⟩
    · have h2 : ((r.length : Int) = 3) = False := eq_false (by omega)
      simp only [vmA, Nat.reduceEqDiff, reduceIte, Nat.reduceAdd, Nat.reduceBEq, reduceCtorEq, Nat.reduceLT, Int.reduceLE, Int.reduceLT, Int.reduceEq, Nat.reduceMul, Nat.reduceLeDiff, vA, List.length_map, hr, h2]
      (refine hQ _ ?_; simp only [vmA, Nat.reduceEqDiff, reduceIte, Nat.reduceAdd, Nat.reduceBEq, reduceCtorEq, Nat.reduceLT, Int.reduceLE, Int.reduceLT, Int.reduceEq, Nat.reduceMul, Nat.reduceLeDiff, Try.f26, retG, resL, St.closeVs, St.closeV])
      exact leafF fun h => hl h.1
  · simp only [vmA, Nat.reduceEqDiff, reduceIte, Nat.reduceAdd, Nat.reduceBEq, reduceCtorEq, Nat.reduceLT, Int.reduceLE, Int.reduceLT, Int.reduceEq, Nat.reduceMul, Nat.reduceLeDiff, vA, List.length_map, hr]
    (refine hQ _ ?_; simp only [vmA, Nat.reduceEqDiff, reduceIte, Nat.reduceAdd, Nat.reduceBEq, reduceCtorEq, Nat.reduceLT, Int.reduceLE, Int.reduceLT, Int.reduceEq, Nat.reduceMul, Nat.reduceLeDiff, Try.f26, retG, resL, St.closeVs, St.closeV])
    exact leafF fun h => hr h.2.1
theorem f38 (r : List Val) (c : Bool) (ho : okR r) : Fx 38 [.fro none c (r.map vA)] (.bool (decide (¬ winP r))) := by
  refine fn_of false Try.func38 (by kernel_rfl) rfl (by kernel_rfl) (by kernel_rfl) (Nat.le_of_ble_eq_true rfl) rfl fun Q hQ => ?_
  by_cases hl : r.length = 3
  · have h2 : ((r.length : Int) = 3) = True := eq_true (by omega)
    have h3 : ((2 : Int) < r.length) = True := eq_true (by omega)
    have h4 : (2 < r.length) = True := eq_true (by omega)
    simp only [vmA, Nat.reduceEqDiff, reduceIte, Nat.reduceAdd, Nat.reduceBEq, reduceCtorEq, Nat.reduceLT, Int.reduceLE, Int.reduceLT, Int.reduceEq, Nat.reduceMul, Nat.reduceLeDiff, vA, List.length_map, h2]
    refine callD (f39 r c ho.1 ho.2) ?_
    by_cases hr : rowP r
    · by_cases k1 : r[2]!.k = 1
      · simp only [vmA, Nat.reduceEqDiff, reduceIte, Nat.reduceAdd, Nat.reduceBEq, reduceCtorEq, Nat.reduceLT, Int.reduceLE, Int.reduceLT, Int.reduceEq, Nat.reduceMul, Nat.reduceLeDiff, vA, List.length_map, hr, h2, h3, h4, k1, show Int.toNat 2 = 2 from rfl]
        (refine hQ _ ?_; simp only [vmA, Nat.reduceEqDiff, reduceIte, Nat.reduceAdd, Nat.reduceBEq, reduceCtorEq, Nat.reduceLT, Int.reduceLE, Int.reduceLT, Int.reduceEq, Nat.reduceMul, Nat.reduceLeDiff, Try.f38, retG, resL, St.closeVs, St.closeV])
        exact leafF (fun h => h ⟨hl, hr, .inl k1⟩)
      · simp only [vmA, Nat.reduceEqDiff, reduceIte, Nat.reduceAdd, Nat.reduceBEq, reduceCtorEq, Nat.reduceLT, Int.reduceLE, Int.reduceLT, Int.reduceEq, Nat.reduceMul, Nat.reduceLeDiff, vA, List.length_map, hr, h2, h3, h4, k1, show Int.toNat 2 = 2 from rfl]
        (refine hQ _ ?_; simp only [vmA, Nat.reduceEqDiff, reduceIte, Nat.reduceAdd, Nat.reduceBEq, reduceCtorEq, Nat.reduceLT, Int.reduceLE, Int.reduceLT, Int.reduceEq, Nat.reduceMul, Nat.reduceLeDiff, Try.f38, retG, resL, St.closeVs, St.closeV])
        exact leafB ⟨fun h h2 => h2.2.2.elim k1 h, fun h h2 => h ⟨hl, hr, .inr h2⟩⟩
    · simp only [vmA, Nat.reduceEqDiff, reduceIte, Nat.reduceAdd, Nat.reduceBEq, reduceCtorEq, Nat.reduceLT, Int.reduceLE, Int.reduceLT, Int.reduceEq, Nat.reduceMul, Nat.reduceLeDiff, vA, List.length_map, hr]
      (refine hQ _ ?_; simp only [vmA, Nat.reduceEqDiff, reduceIte, Nat.reduceAdd, Nat.reduceBEq, reduceCtorEq, Nat.reduceLT, Int.reduceLE, Int.reduceLT, Int.reduceEq, Nat.reduceMul, Nat.reduceLeDiff, Try.f38, retG, resL, St.closeVs, St.closeV])
      exact leafT (fun h => hr h.2.1)
  · have h2 : ((r.length : Int) = 3) = False := eq_false (by omega)
    simp only [vmA, Nat.reduceEqDiff, reduceIte, Nat.reduceAdd, Nat.reduceBEq, reduceCtorEq, Nat.reduceLT, Int.reduceLE, Int.reduceLT, Int.reduceEq, Nat.reduceMul, Nat.reduceLeDiff, vA, List.length_map, h2]
    (refine hQ _ ?_; simp only [vmA, Nat.reduceEqDiff, reduceIte, Nat.reduceAdd, Nat.reduceBEq, reduceCtorEq, Nat.reduceLT, Int.reduceLE, Int.reduceLT, Int.reduceEq, Nat.reduceMul, Nat.reduceLeDiff, Try.f38, retG, resL, St.closeVs, St.closeV])
    exact leafT (fun h => hl h.1)

theorem f75 (xs : List (List Val)) (c : Bool) (hl : xs.length ≤ 9223372036854775807) (hs : ∀ r ∈ xs, okR r) : Fx 75 [.fro none c (xs.map rA), .clo 38 []] (.int .i64 (idxL (fun r => ¬ winP r) xs 0)) := by
  refine fn_of false Try.func75 (by kernel_rfl) rfl (by kernel_rfl) (by kernel_rfl) (Nat.le_of_ble_eq_true rfl) rfl fun Q hQ => ?_
  simp only [vmA, Nat.reduceEqDiff, reduceIte, Nat.reduceAdd, Nat.reduceBEq, reduceCtorEq, Nat.reduceLT, Int.reduceLE, Int.reduceLT, Int.reduceEq, Nat.reduceMul, Nat.reduceLeDiff, List.length_map]
  refine WT_loop (fun (i : Nat) σ => i ≤ xs.length ∧ σ.sl 0 = .fro none c (xs.map rA) ∧ σ.sl 1 = .clo 38 [] ∧ σ.sl 7 = .int .i64 xs.length ∧ σ.sl 8 = .int .i64 i ∧ idxL (fun r => ¬ winP r) (xs.drop i) i = idxL (fun r => ¬ winP r) xs 0) (fun i => xs.length - i) 0 ⟨by omega, by simp [put_sl, put_en, put_none, init_sl, fresh_sl, fresh_en, ent_sl, ent_en, init_en], by simp [put_sl, put_en, put_none, init_sl, fresh_sl, fresh_en, ent_sl, ent_en, init_en], by simp [put_sl, put_en, put_none, init_sl, fresh_sl, fresh_en, ent_sl, ent_en, init_en], by simp [put_sl, put_en, put_none, init_sl, fresh_sl, fresh_en, ent_sl, ent_en, init_en], by simp⟩ ?_
  rintro i σ ⟨hi, e0, e1, e7, e8, hx⟩
  simp only [vmA, Nat.reduceEqDiff, reduceIte, Nat.reduceAdd, Nat.reduceBEq, reduceCtorEq, Nat.reduceLT, Int.reduceLE, Int.reduceLT, Int.reduceEq, Nat.reduceMul, Nat.reduceLeDiff, e0, e1, e7, e8, rA, List.length_map]
  refine ⟨fun hlt => ?_, fun hge => ?_⟩
  · refine ⟨hlt, by omega, callD (f38 xs[i]! false (hs _ (by rw [getElem!_pos xs i (by omega)]; exact List.getElem_mem _))) ?_⟩
    rw [idxL_drop _ (by omega)] at hx
    simp only [vmA, Nat.reduceEqDiff, reduceIte, Nat.reduceAdd, Nat.reduceBEq, reduceCtorEq, Nat.reduceLT, Int.reduceLE, Int.reduceLT, Int.reduceEq, Nat.reduceMul, Nat.reduceLeDiff, e0, e1, e7, e8]
    refine ⟨fun hn => ?_, fun hn => ?_⟩
    · rw [if_pos hn] at hx
      (refine hQ _ ?_; simp only [vmA, Nat.reduceEqDiff, reduceIte, Nat.reduceAdd, Nat.reduceBEq, reduceCtorEq, Nat.reduceLT, Int.reduceLE, Int.reduceLT, Int.reduceEq, Nat.reduceMul, Nat.reduceLeDiff, Try.f75, retG, resL, St.closeVs, St.closeV])
      rw [hx]
    · rw [if_neg (by simpa using hn)] at hx
      rw [wr (by omega)]
      exact ⟨i + 1, ⟨by omega, rfl, hx⟩, by omega⟩
  · have : xs.drop i = [] := List.drop_of_length_le (by omega)
    rw [this, idxL] at hx
    (refine hQ _ ?_; simp only [vmA, Nat.reduceEqDiff, reduceIte, Nat.reduceAdd, Nat.reduceBEq, reduceCtorEq, Nat.reduceLT, Int.reduceLE, Int.reduceLT, Int.reduceEq, Nat.reduceMul, Nat.reduceLeDiff, Try.f75, retG, resL, St.closeVs, St.closeV])
    rw [← hx]
theorem f37 (xs : List (List Val)) (c : Bool) (hl : xs.length ≤ 9223372036854775807) (hs : ∀ r ∈ xs, okR r) : Fx 37 [.fro none c (xs.map rA), .clo 38 []] (.bool (decide (∃ r ∈ xs, ¬ winP r))) := by
  refine fn_of false Try.func37 (by kernel_rfl) rfl (by kernel_rfl) (by kernel_rfl) (Nat.le_of_ble_eq_true rfl) rfl fun Q hQ => ?_
  simp only [vmA, Nat.reduceEqDiff, reduceIte, Nat.reduceAdd, Nat.reduceBEq, reduceCtorEq, Nat.reduceLT, Int.reduceLE, Int.reduceLT, Int.reduceEq, Nat.reduceMul, Nat.reduceLeDiff]
  refine callD (f75 xs c hl hs) ?_
  simp only [vmA, Nat.reduceEqDiff, reduceIte, Nat.reduceAdd, Nat.reduceBEq, reduceCtorEq, Nat.reduceLT, Int.reduceLE, Int.reduceLT, Int.reduceEq, Nat.reduceMul, Nat.reduceLeDiff]
  (refine hQ _ ?_; simp only [vmA, Nat.reduceEqDiff, reduceIte, Nat.reduceAdd, Nat.reduceBEq, reduceCtorEq, Nat.reduceLT, Int.reduceLE, Int.reduceLT, Int.reduceEq, Nat.reduceMul, Nat.reduceLeDiff, Try.f37, retG, resL, St.closeVs, St.closeV])
  exact leafB (idxL_ge (fun r => ¬ winP r) xs 0 (by omega))
/-- Rows with their places. -/
def tagL (ws : List (List Val)) : List (Nat × List Val) := mkL ws.length fun i => (i, ws[i]!)
theorem tagL_length (ws : List (List Val)) : (tagL ws).length = ws.length := mkL_length _ _
theorem tagL_map (ws : List (List Val)) : (tagL ws).map Prod.snd = ws := by
  refine ext_at (by simp [tagL_length]) fun p hp => ?_
  rw [List.length_map, tagL_length] at hp
  rw [getElem!_pos _ p (by simpa [tagL_length] using hp), List.getElem_map, ← getElem!_pos (tagL ws) p (by rw [tagL_length]; exact hp)]
  unfold tagL
  rw [mkL_at _ hp]
theorem tagL_rT (ws : List (List Val)) : (tagL ws).map rT = ws.map rO := by
  conv => rhs; rw [← tagL_map ws]
  rw [List.map_map]; rfl
theorem tagL_mem {ws : List (List Val)} {z : Nat × List Val} (h : z ∈ tagL ws) : z.2 ∈ ws := by
  rw [← tagL_map ws]; exact List.mem_map_of_mem h
theorem tagL_dec (ws : List (List Val)) : DecA (fun x y => rowCmp x.2 y.2) zlt 0 ws.length (tagL ws) := by
  intro p q _ hpq hq
  unfold tagL
  rw [mkL_at _ hq, mkL_at _ (by omega)]
  refine ⟨fun h => .inl h, fun h => ?_⟩
  dsimp only at h
  have := rowCmp_ok.anti ws[q]! ws[p]!
  by_cases h0 : rowCmp ws[q]! ws[p]! = 0
  · exact .inr ⟨by dsimp only; omega, hpq⟩
  · exact .inl (by dsimp only; omega)
def winsP (ws : List (List Val)) : Prop := ws.length ≤ 50 ∧ ∀ r ∈ ws, winP r
instance (ws : List (List Val)) : Decidable (winsP ws) := by unfold winsP; exact inferInstance
/-- The rows in order, if they may be put in order. -/
def WinR (ws : List (List Val)) (ys : List (Nat × List Val)) : Prop := (winsP ws ∧ ys.Perm (tagL ws) ∧ Asc zlt 0 ws.length ys) ∨ (¬ winsP ws ∧ ys = [])
theorem f15 (ws : List (List Val)) (c : Bool) (hl : ws.length ≤ 1048576) (hr : ∀ w ∈ ws, w.length ≤ 1048576) (hs : ∀ r ∈ ws, okR r) : FxR 15 [.fro none c (ws.map rA)] fun r l => (∃ ys, WinR ws ys ∧ r = .tup [.own 1 (ys.map rT), .bool (decide (winsP ws))]) ∧ l = .und := by
  refine FxR.weakR' (R := fun r l => ((winsP ws ∧ ∃ ys, WinR ws ys ∧ r = .tup [.own 1 (ys.map rT), .bool true]) ∨ ¬ winsP ws ∧ r = .tup [.fro none true [], .bool false]) ∧ l = .und) ?_ ?_
  rotate_left
  · rintro _ _ ⟨⟨hw, ys, hy, rfl⟩ | ⟨hw, rfl⟩, rfl⟩
    · exact ⟨_, ⟨⟨ys, hy, by rw [decide_eq_true hw]⟩, rfl⟩, Weak.refl _⟩
    · exact ⟨_, ⟨⟨[], .inr ⟨hw, rfl⟩, rfl⟩, rfl⟩, by rw [decide_eq_false hw]; exact weak_tup (.cons (weakV_nil 1) (.cons (WeakV.refl _) .nil))⟩
  refine fn_ofR false Try.func15 (by kernel_rfl) rfl (by kernel_rfl) (by kernel_rfl) (Nat.le_of_ble_eq_true rfl) rfl fun Q hQ => ?_
  simp only [vmA, Nat.reduceEqDiff, reduceIte, Nat.reduceAdd, Nat.reduceBEq, reduceCtorEq, Nat.reduceLT, Int.reduceLE, Int.reduceLT, Int.reduceEq, Nat.reduceMul, Nat.reduceLeDiff, List.length_map]
  refine ⟨fun h => ?_, fun h => callD (f37 ws c (by omega) hs) ?_⟩
  · (refine hQ _ ?_; simp only [vmA, Nat.reduceEqDiff, reduceIte, Nat.reduceAdd, Nat.reduceBEq, reduceCtorEq, Nat.reduceLT, Int.reduceLE, Int.reduceLT, Int.reduceEq, Nat.reduceMul, Nat.reduceLeDiff, Try.f15, retG, resL, St.closeVs, St.closeV])
    exact .inr fun hw => by have := hw.1; omega
  simp only [vmA, Nat.reduceEqDiff, reduceIte, Nat.reduceAdd, Nat.reduceBEq, reduceCtorEq, Nat.reduceLT, Int.reduceLE, Int.reduceLT, Int.reduceEq, Nat.reduceMul, Nat.reduceLeDiff, List.length_map]
  refine ⟨fun h2 => ?_, fun h2 => ?_⟩
  · (refine hQ _ ?_; simp only [vmA, Nat.reduceEqDiff, reduceIte, Nat.reduceAdd, Nat.reduceBEq, reduceCtorEq, Nat.reduceLT, Int.reduceLE, Int.reduceLT, Int.reduceEq, Nat.reduceMul, Nat.reduceLeDiff, Try.f15, retG, resL, St.closeVs, St.closeV])
    obtain ⟨r, h3, h4⟩ := h2
    exact .inr fun hw => h4 (hw.2 r h3)
  have hw : winsP ws := ⟨by omega, fun r h3 => Decidable.byContradiction fun h4 => h2 ⟨r, h3, h4⟩⟩
  refine callD (f24 ws c hl hr) ?_
  simp only [vmA, Nat.reduceEqDiff, reduceIte, Nat.reduceAdd, Nat.reduceBEq, reduceCtorEq, Nat.reduceLT, Int.reduceLE, Int.reduceLT, Int.reduceEq, Nat.reduceMul, Nat.reduceLeDiff, List.length_map]
  rw [← tagL_rT]
  refine callR (f40 (tagL ws) (fun x y => rowCmp x.2 y.2) zlt zlt_tr (fun x y hx hy => f41 x.2 y.2 false false (by have := (hw.2 _ (tagL_mem hx)).1; omega) (by have := (hw.2 _ (tagL_mem hy)).1; omega)) (by rw [tagL_length]; exact tagL_dec ws) (by rw [tagL_length]; omega)) ?_
  rintro _ _ ⟨rfl, ys, rfl, hp, ha⟩
  rw [tagL_length] at ha
  have hyl := hp.length_eq
  rw [tagL_length] at hyl
  simp only [vmA, Nat.reduceEqDiff, reduceIte, Nat.reduceAdd, Nat.reduceBEq, reduceCtorEq, Nat.reduceLT, Int.reduceLE, Int.reduceLT, Int.reduceEq, Nat.reduceMul, Nat.reduceLeDiff, List.length_map]
  (refine hQ _ ?_; simp only [vmA, Nat.reduceEqDiff, reduceIte, Nat.reduceAdd, Nat.reduceBEq, reduceCtorEq, Nat.reduceLT, Int.reduceLE, Int.reduceLT, Int.reduceEq, Nat.reduceMul, Nat.reduceLeDiff, Try.f15, retG, resL, St.closeVs, St.closeV, List.length_map, hyl, Int.toNat_zero])
  rw [List.take_of_length_le (by simp; omega)]
  exact .inl ⟨hw, ys, .inl ⟨hw, hp, ha⟩, rfl⟩
theorem f5 (ws : List (List Val)) (c : Bool) (hl : ws.length ≤ 1048576) (hr : ∀ w ∈ ws, w.length ≤ 1048576) (hs : ∀ r ∈ ws, okR r) : FxR 5 [.fro none c (ws.map rA)] fun r l => (∃ ys, WinR ws ys ∧ r = .own 1 (ys.map rT)) ∧ l = .und := by
  refine fn_ofR false Try.func5 (by kernel_rfl) rfl (by kernel_rfl) (by kernel_rfl) (Nat.le_of_ble_eq_true rfl) rfl fun Q hQ => ?_
  simp only [vmA, Nat.reduceEqDiff, reduceIte, Nat.reduceAdd, Nat.reduceBEq, reduceCtorEq, Nat.reduceLT, Int.reduceLE, Int.reduceLT, Int.reduceEq, Nat.reduceMul, Nat.reduceLeDiff]
  refine callR (f15 ws c hl hr hs) ?_
  rintro _ _ ⟨⟨ys, hy, rfl⟩, rfl⟩
  simp only [vmA, Nat.reduceEqDiff, reduceIte, Nat.reduceAdd, Nat.reduceBEq, reduceCtorEq, Nat.reduceLT, Int.reduceLE, Int.reduceLT, Int.reduceEq, Nat.reduceMul, Nat.reduceLeDiff, List.length_map]
  (refine hQ _ ?_; simp only [vmA, Nat.reduceEqDiff, reduceIte, Nat.reduceAdd, Nat.reduceBEq, reduceCtorEq, Nat.reduceLT, Int.reduceLE, Int.reduceLT, Int.reduceEq, Nat.reduceMul, Nat.reduceLeDiff, Try.f5, retG, resL, St.closeVs, St.closeV, List.length_map])
  exact ⟨ys, hy, rfl⟩
