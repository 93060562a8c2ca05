/- WALK of functions of the seat, or plain laws for it: each theorem f<k> says what function k returns, for every world and all arguments that stand for the values named. Conditions: none but those ahead of each theorem. -/
import Derived.Test.YtfimolakepbdbaaYBun
open Go Go.Vm Go.Proofs
set_option maxRecDepth 100000
set_option linter.unusedSimpArgs false
set_option linter.unusedVariables false
theorem f72 (n lo hi : Int) : Fx 72 [.int .i64 n, .int .i64 lo, .int .i64 hi] (.bool (decide (lo ≤ n ∧ n ≤ hi))) := by
  refine fn_of false Try.func72 (by kernel_rfl) rfl (by kernel_rfl) (by kernel_rfl) (Nat.le_of_ble_eq_true rfl) rfl fun Q hQ => ?_
  simp only [vmA, Nat.reduceEqDiff, reduceIte, Nat.reduceAdd, Nat.reduceBEq, reduceCtorEq, Nat.reduceLT, Int.reduceLE, Int.reduceLT, Int.reduceEq, Nat.reduceMul, Nat.reduceLeDiff]
  refine ⟨fun h => ?_, fun h => ?_⟩ <;> (refine hQ _ ?_; simp only [vmA, Nat.reduceEqDiff, reduceIte, Nat.reduceAdd, Nat.reduceBEq, reduceCtorEq, Nat.reduceLT, Int.reduceLE, Int.reduceLT, Int.reduceEq, Nat.reduceMul, Nat.reduceLeDiff, Try.f72, retG, resL, St.closeVs, St.closeV]) <;> simp [h]
theorem f86 (n lo hi : Int) : Fx 86 [.int .i64 n, .int .i64 lo, .int .i64 hi] (.bool (decide (lo ≤ n ∧ n ≤ hi))) := by
  refine fn_of false Try.func86 (by kernel_rfl) rfl (by kernel_rfl) (by kernel_rfl) (Nat.le_of_ble_eq_true rfl) rfl fun Q hQ => ?_
  simp only [vmA, Nat.reduceEqDiff, reduceIte, Nat.reduceAdd, Nat.reduceBEq, reduceCtorEq, Nat.reduceLT, Int.reduceLE, Int.reduceLT, Int.reduceEq, Nat.reduceMul, Nat.reduceLeDiff]
  refine ⟨fun h => ?_, fun h => ?_⟩ <;> (refine hQ _ ?_; simp only [vmA, Nat.reduceEqDiff, reduceIte, Nat.reduceAdd, Nat.reduceBEq, reduceCtorEq, Nat.reduceLT, Int.reduceLE, Int.reduceLT, Int.reduceEq, Nat.reduceMul, Nat.reduceLeDiff, Try.f86, retG, resL, St.closeVs, St.closeV]) <;> simp [h]
theorem f53 (v : Val) (left : Int) (hs : okV v) (h0 : 0 ≤ left) (h1 : left ≤ 1048576) : Fx 53 [vA v, .int .i64 left] (.int .i64 (szv v left)) := by
  refine fn_of false Try.func53 (by kernel_rfl) rfl (by kernel_rfl) (by kernel_rfl) (Nat.le_of_ble_eq_true rfl) rfl fun Q hQ => ?_
  simp only [vmA, Nat.reduceEqDiff, reduceIte, Nat.reduceAdd, Nat.reduceBEq, reduceCtorEq, Nat.reduceLT, Int.reduceLE, Int.reduceLT, Int.reduceEq, Nat.reduceMul, Nat.reduceLeDiff, vA]
  unfold okV at hs
  rw [wr (by omega)]
  refine ⟨fun h => ?_, fun h => ?_⟩ <;> (refine hQ _ ?_; simp only [vmA, Nat.reduceEqDiff, reduceIte, Nat.reduceAdd, Nat.reduceBEq, reduceCtorEq, Nat.reduceLT, Int.reduceLE, Int.reduceLT, Int.reduceEq, Nat.reduceMul, Nat.reduceLeDiff, Try.f53, retG, resL, St.closeVs, St.closeV]) <;> simp [szv, h]
theorem f30 (xs : List Val) (c : Bool) (left : Int) (hs : ∀ v ∈ xs, okV v) (hl : xs.length ≤ 9223372036854775807) (h0 : 0 ≤ left) (h1 : left ≤ 1048576) : Fx 30 [.fro none c (xs.map vA), .int .i64 left] (.int .i64 (szS szv xs left)) := by
  refine fn_of false Try.func30 (by kernel_rfl) rfl (by kernel_rfl) (by kernel_rfl) (Nat.le_of_ble_eq_true rfl) rfl fun Q hQ => ?_
  simp only [vmA, Nat.reduceEqDiff, reduceIte, Nat.reduceAdd, Nat.reduceBEq, reduceCtorEq, Nat.reduceLT, Int.reduceLE, Int.reduceLT, Int.reduceEq, Nat.reduceMul, Nat.reduceLeDiff]
  rw [wr (by omega)]
  refine ⟨fun h => ?_, fun h => ?_⟩
  · (refine hQ _ ?_; simp only [vmA, Nat.reduceEqDiff, reduceIte, Nat.reduceAdd, Nat.reduceBEq, reduceCtorEq, Nat.reduceLT, Int.reduceLE, Int.reduceLT, Int.reduceEq, Nat.reduceMul, Nat.reduceLeDiff, Try.f30, retG, resL, St.closeVs, St.closeV])
    simp [szS, h]
  refine WT_loop (fun (p : Nat × Int) σ => p.1 ≤ xs.length ∧ 0 ≤ p.2 ∧ p.2 ≤ left ∧ szL szv (xs.drop p.1) p.2 = szS szv xs left ∧ σ.sl 0 = .fro none c (xs.map vA) ∧ σ.sl 5 = .int .i64 p.1 ∧ σ.sl 1 = .int .i64 p.2) (fun p => xs.length - p.1) (0, left - xs.length)
    ⟨by omega, by omega, by omega, by simp [szS, h], by simp [put_sl, put_en, put_none, init_sl, fresh_sl, fresh_en, ent_sl, ent_en, init_en], by simp [put_sl, put_en, put_none, init_sl, fresh_sl, fresh_en, ent_sl, ent_en, init_en], by simp [put_sl, put_en, put_none, init_sl, fresh_sl, fresh_en, ent_sl, ent_en, init_en]⟩ ?_
  rintro ⟨i, l⟩ σ ⟨hi, hl0, hl1, hz, e0, e5, e1⟩
  dsimp only at hi hl0 hl1 hz e5 e1
  simp only [vmA, Nat.reduceEqDiff, reduceIte, Nat.reduceAdd, Nat.reduceBEq, reduceCtorEq, Nat.reduceLT, Int.reduceLE, Int.reduceLT, Int.reduceEq, Nat.reduceMul, Nat.reduceLeDiff, e0, e5, e1, vA]
  refine ⟨fun hlt => ⟨hlt, by omega, callD (f53 xs[i]! l (hs _ (by rw [getElem!_pos xs i (by omega)]; exact List.getElem_mem _)) hl0 (by omega)) ?_⟩, fun hge => ?_⟩
  · rw [szL_drop szv (by omega)] at hz
    have hb := szv_ok xs[i]! l hl0
    simp only [vmA, Nat.reduceEqDiff, reduceIte, Nat.reduceAdd, Nat.reduceBEq, reduceCtorEq, Nat.reduceLT, Int.reduceLE, Int.reduceLT, Int.reduceEq, Nat.reduceMul, Nat.reduceLeDiff, e0, e5]
    refine ⟨fun hneg => ?_, fun hpos => ?_⟩
    · (refine hQ _ ?_; simp only [vmA, Nat.reduceEqDiff, reduceIte, Nat.reduceAdd, Nat.reduceBEq, reduceCtorEq, Nat.reduceLT, Int.reduceLE, Int.reduceLT, Int.reduceEq, Nat.reduceMul, Nat.reduceLeDiff, Try.f30, retG, resL, St.closeVs, St.closeV])
      rw [if_pos hneg] at hz; rw [hz]
    · rw [if_neg hpos] at hz
      rw [wr (by omega)]
      refine ⟨(i + 1, szv xs[i]! l), ⟨by dsimp only; omega, by dsimp only; omega, by dsimp only; omega, hz, ?_⟩, by dsimp only; omega⟩
      simp
  · have : xs.drop i = [] := List.drop_of_length_le (by omega)
    rw [this, szL] at hz
    (refine hQ _ ?_; simp only [vmA, Nat.reduceEqDiff, reduceIte, Nat.reduceAdd, Nat.reduceBEq, reduceCtorEq, Nat.reduceLT, Int.reduceLE, Int.reduceLT, Int.reduceEq, Nat.reduceMul, Nat.reduceLeDiff, Try.f30, retG, resL, St.closeVs, St.closeV, e1])
    rw [hz]
theorem f55 (v : Val) : Fx 55 [vA v] (vA v) := by
  refine fn_of false Try.func55 (by kernel_rfl) rfl (by kernel_rfl) (by kernel_rfl) (Nat.le_of_ble_eq_true rfl) rfl fun Q hQ => ?_
  simp only [vmA, Nat.reduceEqDiff, reduceIte, Nat.reduceAdd, Nat.reduceBEq, reduceCtorEq, Nat.reduceLT, Int.reduceLE, Int.reduceLT, Int.reduceEq, Nat.reduceMul, Nat.reduceLeDiff, vA]
  (refine hQ _ ?_; simp only [vmA, Nat.reduceEqDiff, reduceIte, Nat.reduceAdd, Nat.reduceBEq, reduceCtorEq, Nat.reduceLT, Int.reduceLE, Int.reduceLT, Int.reduceEq, Nat.reduceMul, Nat.reduceLeDiff, Try.f55, retG, resL, St.closeVs, St.closeV])
  rfl
theorem f34 (xs : List Val) (c : Bool) (hl : xs.length ≤ 1048576) : Fx 34 [.fro none c (xs.map vA)] (.own 3 (xs.map vA)) := by
  refine fn_of false Try.func34 (by kernel_rfl) rfl (by kernel_rfl) (by kernel_rfl) (Nat.le_of_ble_eq_true rfl) rfl fun Q hQ => ?_
  simp only [vmA, Nat.reduceEqDiff, reduceIte, Nat.reduceAdd, Nat.reduceBEq, reduceCtorEq, Nat.reduceLT, Int.reduceLE, Int.reduceLT, Int.reduceEq, Nat.reduceMul, Nat.reduceLeDiff]
  refine ⟨by omega, WT_loop (fun (i : Nat) σ => i ≤ xs.length ∧ σ.sl 0 = .fro none c (xs.map vA) ∧ σ.sl 4 = .int .i64 i ∧ σ.sl 3 = .hd 448 1 0 xs.length true ∧ (σ.en 448).live = true ∧ (σ.en 448).gen = 1 ∧ (σ.en 448).frz = false ∧ (σ.en 448).sz = 3 ∧ (σ.en 448).elems = upL vA (.agg [.int .i64 0, .int .i64 0, .str ⟨⟨[]⟩⟩]) xs i) (fun i => xs.length - i) 0 ?_ ?_⟩
  · simp [put_sl, put_en, put_none, init_sl, fresh_sl, fresh_en, ent_sl, ent_en, init_en, upL_zero]
  rintro i σ ⟨hi, e0, e4, e3, l1, l2, l3, l4, l5⟩
  simp only [vmA, Nat.reduceEqDiff, reduceIte, Nat.reduceAdd, Nat.reduceBEq, reduceCtorEq, Nat.reduceLT, Int.reduceLE, Int.reduceLT, Int.reduceEq, Nat.reduceMul, Nat.reduceLeDiff, e0, e4, e3, vA, l1, l2, l3, l4, l5, upL_length vA _ xs hi]
  refine ⟨fun hlt => ?_, fun hge => ?_⟩
  · refine ⟨hlt, by omega, callD (f55 xs[i]!) ?_⟩
    simp only [vmA, Nat.reduceEqDiff, reduceIte, Nat.reduceAdd, Nat.reduceBEq, reduceCtorEq, Nat.reduceLT, Int.reduceLE, Int.reduceLT, Int.reduceEq, Nat.reduceMul, Nat.reduceLeDiff, e0, e4, e3, vA, l1, l2, l3, l4, l5, upL_length vA _ xs hi, upL_get vA _ xs (show i < xs.length by omega), Nat.le_refl]
    refine ⟨hlt, i + 1, ⟨by omega, by rw [wr (by omega)]; rfl, ?_⟩, by omega⟩
    exact upL_set vA _ xs (by omega)
  · obtain rfl : i = xs.length := by omega
    (refine hQ _ ?_; simp only [vmA, Nat.reduceEqDiff, reduceIte, Nat.reduceAdd, Nat.reduceBEq, reduceCtorEq, Nat.reduceLT, Int.reduceLE, Int.reduceLT, Int.reduceEq, Nat.reduceMul, Nat.reduceLeDiff, Try.f34, retG, resL, St.closeVs, St.closeV, l1, l2, l3, l4, l5, upL_full, Nat.le_refl, List.take_length])
theorem f61 (v : Val) : Fx 61 [vA v, vA v] (.bool true) := by
  refine fn_of false Try.func61 (by kernel_rfl) rfl (by kernel_rfl) (by kernel_rfl) (Nat.le_of_ble_eq_true rfl) rfl fun Q hQ => ?_
  simp only [vmA, Nat.reduceEqDiff, reduceIte, Nat.reduceAdd, Nat.reduceBEq, reduceCtorEq, Nat.reduceLT, Int.reduceLE, Int.reduceLT, Int.reduceEq, Nat.reduceMul, Nat.reduceLeDiff, vA]
  (refine hQ _ ?_; simp only [vmA, Nat.reduceEqDiff, reduceIte, Nat.reduceAdd, Nat.reduceBEq, reduceCtorEq, Nat.reduceLT, Int.reduceLE, Int.reduceLT, Int.reduceEq, Nat.reduceMul, Nat.reduceLeDiff, Try.f61, retG, resL, St.closeVs, St.closeV])
theorem f36 (xs : List Val) (c c2 : Bool) (hl : xs.length ≤ 1048576) : Fx 36 [.fro none c (xs.map vA), .fro none c2 (xs.map vA)] (.bool true) := by
  refine fn_of false Try.func36 (by kernel_rfl) rfl (by kernel_rfl) (by kernel_rfl) (Nat.le_of_ble_eq_true rfl) rfl fun Q hQ => ?_
  simp only [vmA, Nat.reduceEqDiff, reduceIte, Nat.reduceAdd, Nat.reduceBEq, reduceCtorEq, Nat.reduceLT, Int.reduceLE, Int.reduceLT, Int.reduceEq, Nat.reduceMul, Nat.reduceLeDiff]
  refine WT_loop (fun (i : Nat) σ => i ≤ xs.length ∧ σ.sl 0 = .fro none c (xs.map vA) ∧ σ.sl 1 = .fro none c2 (xs.map vA) ∧ σ.sl 5 = .int .i64 i) (fun i => xs.length - i) 0 ⟨by omega, by simp [put_sl, put_en, put_none, init_sl, fresh_sl, fresh_en, ent_sl, ent_en, init_en], by simp [put_sl, put_en, put_none, init_sl, fresh_sl, fresh_en, ent_sl, ent_en, init_en], by simp [put_sl, put_en, put_none, init_sl, fresh_sl, fresh_en, ent_sl, ent_en, init_en]⟩ ?_
  rintro i σ ⟨hi, e0, e1, e5⟩
  simp only [vmA, Nat.reduceEqDiff, reduceIte, Nat.reduceAdd, Nat.reduceBEq, reduceCtorEq, Nat.reduceLT, Int.reduceLE, Int.reduceLT, Int.reduceEq, Nat.reduceMul, Nat.reduceLeDiff, e0, e1, e5, vA]
  refine ⟨fun hlt => ?_, fun hge => ?_⟩
  · refine ⟨hlt, by omega, hlt, by omega, callD (f61 xs[i]!) ?_⟩
    simp only [vmA, Nat.reduceEqDiff, reduceIte, Nat.reduceAdd, Nat.reduceBEq, reduceCtorEq, Nat.reduceLT, Int.reduceLE, Int.reduceLT, Int.reduceEq, Nat.reduceMul, Nat.reduceLeDiff, e0, e1, e5]
    refine ⟨i + 1, ⟨by omega, by rw [wr (by omega)]; rfl⟩, by omega⟩
  · (refine hQ _ ?_; simp only [vmA, Nat.reduceEqDiff, reduceIte, Nat.reduceAdd, Nat.reduceBEq, reduceCtorEq, Nat.reduceLT, Int.reduceLE, Int.reduceLT, Int.reduceEq, Nat.reduceMul, Nat.reduceLeDiff, Try.f36, retG, resL, St.closeVs, St.closeV])
theorem bytesA (s : ByteArray) : (s.data.toList.map fun b => AV.int .u8 b.toNat) = (bs s).map bA := rfl
theorem f73 (s : ByteArray) (hs : s.size ≤ 9223372036854775807) : Fx 73 [.str s] (.bool (decide (lettersP s))) := by
  have hl := bs_length s
  refine fn_of false Try.func73 (by kernel_rfl) rfl (by kernel_rfl) (by kernel_rfl) (Nat.le_of_ble_eq_true rfl) rfl fun Q hQ => ?_
  simp only [vmA, Nat.reduceEqDiff, reduceIte, Nat.reduceAdd, Nat.reduceBEq, reduceCtorEq, Nat.reduceLT, Int.reduceLE, Int.reduceLT, Int.reduceEq, Nat.reduceMul, Nat.reduceLeDiff, bytesA]
  refine WT_loop (fun (i : Nat) σ => i ≤ (bs s).length ∧ σ.sl 6 = .fro none false ((bs s).map bA) ∧ σ.sl 7 = .int .i64 (bs s).length ∧ σ.sl 8 = .int .i64 i ∧ ∀ b ∈ (bs s).take i, 97 ≤ b.toNat ∧ b.toNat ≤ 122) (fun i => (bs s).length - i) 0 ⟨by omega, by simp [put_sl, put_en, put_none, init_sl, fresh_sl, fresh_en, ent_sl, ent_en, init_en], by simp [put_sl, put_en, put_none, init_sl, fresh_sl, fresh_en, ent_sl, ent_en, init_en], by simp [put_sl, put_en, put_none, init_sl, fresh_sl, fresh_en, ent_sl, ent_en, init_en], by simp⟩ ?_
  rintro i σ ⟨hi, e6, e7, e8, hall⟩
  simp only [vmA, Nat.reduceEqDiff, reduceIte, Nat.reduceAdd, Nat.reduceBEq, reduceCtorEq, Nat.reduceLT, Int.reduceLE, Int.reduceLT, Int.reduceEq, Nat.reduceMul, Nat.reduceLeDiff, e6, e7, e8, bA]
  refine ⟨fun hlt => ?_, fun hge => ?_⟩
  · have hb : (bs s)[i]!.toNat < 256 := UInt8.toNat_lt _
    have hm : (bs s)[i]! ∈ bs s := by rw [getElem!_pos (bs s) i (by omega)]; exact List.getElem_mem _
    rw [wr (by omega)]
    refine ⟨hlt, by omega, callD (f72 _ _ _) ?_⟩
    simp only [vmA, Nat.reduceEqDiff, reduceIte, Nat.reduceAdd, Nat.reduceBEq, reduceCtorEq, Nat.reduceLT, Int.reduceLE, Int.reduceLT, Int.reduceEq, Nat.reduceMul, Nat.reduceLeDiff, e6, e7, e8]
    refine ⟨fun hno => ?_, fun hyes => ?_⟩
    · (refine hQ _ ?_; simp only [vmA, Nat.reduceEqDiff, reduceIte, Nat.reduceAdd, Nat.reduceBEq, reduceCtorEq, Nat.reduceLT, Int.reduceLE, Int.reduceLT, Int.reduceEq, Nat.reduceMul, Nat.reduceLeDiff, Try.f73, retG, resL, St.closeVs, St.closeV])
      have : ¬ lettersP s := fun h => by have := h _ hm; omega
      simp [this]
    · rw [wr (by omega)]
      refine ⟨i + 1, ⟨by omega, rfl, fun b hbm => ?_⟩, by omega⟩
      rw [List.take_succ_eq_append_getElem (by omega)] at hbm
      rcases List.mem_append.1 hbm with h | h
      · exact hall b h
      · have : b = (bs s)[i]! := by rw [getElem!_pos (bs s) i (by omega)]; simpa using h
        subst this; omega
  · (refine hQ _ ?_; simp only [vmA, Nat.reduceEqDiff, reduceIte, Nat.reduceAdd, Nat.reduceBEq, reduceCtorEq, Nat.reduceLT, Int.reduceLE, Int.reduceLT, Int.reduceEq, Nat.reduceMul, Nat.reduceLeDiff, Try.f73, retG, resL, St.closeVs, St.closeV])
    have : lettersP s := fun b hb => hall b (by rw [List.take_of_length_le (by omega)]; exact hb)
    simp [this]
theorem f87 (s : ByteArray) (hs : s.size ≤ 9223372036854775807) : Fx 87 [.str s] (.bool (decide (lettersP s ∧ s.size ≤ 6))) := by
  have hl := bs_length s
  refine fn_of false Try.func87 (by kernel_rfl) rfl (by kernel_rfl) (by kernel_rfl) (Nat.le_of_ble_eq_true rfl) rfl fun Q hQ => ?_
  simp only [vmA, Nat.reduceEqDiff, reduceIte, Nat.reduceAdd, Nat.reduceBEq, reduceCtorEq, Nat.reduceLT, Int.reduceLE, Int.reduceLT, Int.reduceEq, Nat.reduceMul, Nat.reduceLeDiff]
  refine WT_loop (fun (i : Nat) σ => i ≤ (bs s).length ∧ σ.sl 0 = .str s ∧ σ.sl 3 = .int .i64 i ∧ ∀ b ∈ (bs s).take i, 97 ≤ b.toNat ∧ b.toNat ≤ 122) (fun i => (bs s).length - i) 0 ⟨by omega, by simp [put_sl, put_en, put_none, init_sl, fresh_sl, fresh_en, ent_sl, ent_en, init_en], by simp [put_sl, put_en, put_none, init_sl, fresh_sl, fresh_en, ent_sl, ent_en, init_en], by simp⟩ ?_
  rintro i σ ⟨hi, e0, e3, hall⟩
  simp only [vmA, Nat.reduceEqDiff, reduceIte, Nat.reduceAdd, Nat.reduceBEq, reduceCtorEq, Nat.reduceLT, Int.reduceLE, Int.reduceLT, Int.reduceEq, Nat.reduceMul, Nat.reduceLeDiff, e0, e3]
  refine ⟨fun hlt => ?_, fun hge => ?_⟩
  · have hb : (bs s)[i]!.toNat < 256 := UInt8.toNat_lt _
    have hm : (bs s)[i]! ∈ bs s := by rw [getElem!_pos (bs s) i (by omega)]; exact List.getElem_mem _
    have hg : s.data[i]?.getD 0 = (bs s)[i]! := by
      rw [getElem!_pos (bs s) i (by omega)]
      have hlt' : i < s.data.size := by have : s.data.size = s.size := rfl; omega
      rw [Array.getElem?_eq_getElem hlt']; simp [bs]
    rw [hg]
    have no : ¬ (97 ≤ (bs s)[i]!.toNat ∧ (bs s)[i]!.toNat ≤ 122) → ¬ (lettersP s ∧ s.size ≤ 6) := fun h1 h2 => h1 (h2.1 _ hm)
    refine ⟨hlt, fun h1 => ?_, fun h1 => ⟨hlt, fun h2 => ?_, fun h2 => ?_⟩⟩
    · (refine hQ _ ?_; simp only [vmA, Nat.reduceEqDiff, reduceIte, Nat.reduceAdd, Nat.reduceBEq, reduceCtorEq, Nat.reduceLT, Int.reduceLE, Int.reduceLT, Int.reduceEq, Nat.reduceMul, Nat.reduceLeDiff, Try.f87, retG, resL, St.closeVs, St.closeV])
      rw [decide_eq_false (no (by omega))]
    · (refine hQ _ ?_; simp only [vmA, Nat.reduceEqDiff, reduceIte, Nat.reduceAdd, Nat.reduceBEq, reduceCtorEq, Nat.reduceLT, Int.reduceLE, Int.reduceLT, Int.reduceEq, Nat.reduceMul, Nat.reduceLeDiff, Try.f87, retG, resL, St.closeVs, St.closeV])
      rw [decide_eq_false (no (by omega))]
    · rw [wr (by omega)]
      refine ⟨i + 1, ⟨by omega, rfl, fun b hbm => ?_⟩, by omega⟩
      rw [List.take_succ_eq_append_getElem (by omega)] at hbm
      rcases List.mem_append.1 hbm with h | h
      · exact hall b h
      · have : b = (bs s)[i]! := by rw [getElem!_pos (bs s) i (by omega)]; simpa using h
        subst this; omega
  · (refine hQ _ ?_; simp only [vmA, Nat.reduceEqDiff, reduceIte, Nat.reduceAdd, Nat.reduceBEq, reduceCtorEq, Nat.reduceLT, Int.reduceLE, Int.reduceLT, Int.reduceEq, Nat.reduceMul, Nat.reduceLeDiff, Try.f87, retG, resL, St.closeVs, St.closeV])
    have : lettersP s := fun b hb => hall b (by rw [List.take_of_length_le (by omega)]; exact hb)
    simp [this]
    omega
def valP (v : Val) : Prop := (v.k = 0 ∧ v.n = 0 ∧ v.s = ⟨⟨[]⟩⟩) ∨ (v.k = 1 ∧ v.s = ⟨⟨[]⟩⟩ ∧ -9999 ≤ v.n ∧ v.n ≤ 9999) ∨ (v.k = 2 ∧ v.n = 0 ∧ v.s.size ≤ 6 ∧ lettersP v.s) ∨ (v.k = 3 ∧ v.s = ⟨⟨[]⟩⟩ ∧ 0 ≤ v.n ∧ v.n ≤ 1)
instance (v : Val) : Decidable (valP v) := by unfold valP; exact inferInstance
theorem f47 (v : Val) (hs : okV v) : Fx 47 [vA v] (.bool (decide (valP v))) := by
  refine fn_of false Try.func47 (by kernel_rfl) rfl (by kernel_rfl) (by kernel_rfl) (Nat.le_of_ble_eq_true rfl) rfl fun Q hQ => ?_
  simp only [vmA, Nat.reduceEqDiff, reduceIte, Nat.reduceAdd, Nat.reduceBEq, reduceCtorEq, Nat.reduceLT, Int.reduceLE, Int.reduceLT, Int.reduceEq, Nat.reduceMul, Nat.reduceLeDiff, vA, buildF]
  refine ⟨fun h0 => ?_, fun h0 => ⟨fun h1 => ⟨fun e => callD (f72 _ _ _) ?_, fun e => ?_⟩, fun h1 => ⟨fun h2 => ⟨fun e => ⟨fun e2 => callD (f73 _ hs) ?_, fun e2 => ?_⟩, fun e => ?_⟩, fun h2 => ⟨fun h3 => ⟨fun e => callD (f72 _ _ _) ?_, fun e => ?_⟩, fun h3 => ?_⟩⟩⟩⟩
  all_goals (try simp only [vmA, Nat.reduceEqDiff, reduceIte, Nat.reduceAdd, Nat.reduceBEq, reduceCtorEq, Nat.reduceLT, Int.reduceLE, Int.reduceLT, Int.reduceEq, Nat.reduceMul, Nat.reduceLeDiff])
  · (refine hQ _ ?_; simp only [vmA, Nat.reduceEqDiff, reduceIte, Nat.reduceAdd, Nat.reduceBEq, reduceCtorEq, Nat.reduceLT, Int.reduceLE, Int.reduceLT, Int.reduceEq, Nat.reduceMul, Nat.reduceLeDiff, Try.f47, retG, resL, St.closeVs, St.closeV])
    simp [valP, h0]
  · (refine hQ _ ?_; simp only [vmA, Nat.reduceEqDiff, reduceIte, Nat.reduceAdd, Nat.reduceBEq, reduceCtorEq, Nat.reduceLT, Int.reduceLE, Int.reduceLT, Int.reduceEq, Nat.reduceMul, Nat.reduceLeDiff, Try.f47, retG, resL, St.closeVs, St.closeV])
    exact leafB (by simp [valP, h1, e])
  · (refine hQ _ ?_; simp only [vmA, Nat.reduceEqDiff, reduceIte, Nat.reduceAdd, Nat.reduceBEq, reduceCtorEq, Nat.reduceLT, Int.reduceLE, Int.reduceLT, Int.reduceEq, Nat.reduceMul, Nat.reduceLeDiff, Try.f47, retG, resL, St.closeVs, St.closeV])
    exact leafF (by simp [valP, h1]; exact fun h => absurd h e)
  · (refine hQ _ ?_; simp only [vmA, Nat.reduceEqDiff, reduceIte, Nat.reduceAdd, Nat.reduceBEq, reduceCtorEq, Nat.reduceLT, Int.reduceLE, Int.reduceLT, Int.reduceEq, Nat.reduceMul, Nat.reduceLeDiff, Try.f47, retG, resL, St.closeVs, St.closeV])
    exact leafB (by simp [valP, h2, e]; omega)
  · (refine hQ _ ?_; simp only [vmA, Nat.reduceEqDiff, reduceIte, Nat.reduceAdd, Nat.reduceBEq, reduceCtorEq, Nat.reduceLT, Int.reduceLE, Int.reduceLT, Int.reduceEq, Nat.reduceMul, Nat.reduceLeDiff, Try.f47, retG, resL, St.closeVs, St.closeV])
    exact leafF (by simp [valP, h2]; omega)
  · (refine hQ _ ?_; simp only [vmA, Nat.reduceEqDiff, reduceIte, Nat.reduceAdd, Nat.reduceBEq, reduceCtorEq, Nat.reduceLT, Int.reduceLE, Int.reduceLT, Int.reduceEq, Nat.reduceMul, Nat.reduceLeDiff, Try.f47, retG, resL, St.closeVs, St.closeV])
    exact leafF (by simp [valP, h2]; exact fun h => absurd h e)
  · (refine hQ _ ?_; simp only [vmA, Nat.reduceEqDiff, reduceIte, Nat.reduceAdd, Nat.reduceBEq, reduceCtorEq, Nat.reduceLT, Int.reduceLE, Int.reduceLT, Int.reduceEq, Nat.reduceMul, Nat.reduceLeDiff, Try.f47, retG, resL, St.closeVs, St.closeV])
    exact leafB (by simp [valP, h3, e])
  · (refine hQ _ ?_; simp only [vmA, Nat.reduceEqDiff, reduceIte, Nat.reduceAdd, Nat.reduceBEq, reduceCtorEq, Nat.reduceLT, Int.reduceLE, Int.reduceLT, Int.reduceEq, Nat.reduceMul, Nat.reduceLeDiff, Try.f47, retG, resL, St.closeVs, St.closeV])
    exact leafF (by simp [valP, h3]; exact fun h => absurd h e)
  · (refine hQ _ ?_; simp only [vmA, Nat.reduceEqDiff, reduceIte, Nat.reduceAdd, Nat.reduceBEq, reduceCtorEq, Nat.reduceLT, Int.reduceLE, Int.reduceLT, Int.reduceEq, Nat.reduceMul, Nat.reduceLeDiff, Try.f47, retG, resL, St.closeVs, St.closeV])
    exact leafF (by simp [valP, h0, h1, h2, h3])
theorem f69 (v : Val) (hs : okV v) : Fx 69 [vA v] (.bool (decide (valP v))) := by
  refine fn_of false Try.func69 (by kernel_rfl) rfl (by kernel_rfl) (by kernel_rfl) (Nat.le_of_ble_eq_true rfl) rfl fun Q hQ => ?_
  simp only [vmA, Nat.reduceEqDiff, reduceIte, Nat.reduceAdd, Nat.reduceBEq, reduceCtorEq, Nat.reduceLT, Int.reduceLE, Int.reduceLT, Int.reduceEq, Nat.reduceMul, Nat.reduceLeDiff, vA]
  refine ⟨fun h0 => ⟨fun e => ?_, fun e => ?_⟩, fun h0 => ⟨fun h1 => callD (f86 _ _ _) ?_, fun h1 => ⟨fun h2 => ⟨fun e => callD (f87 _ hs) ?_, fun e => ?_⟩, fun h2 => ⟨fun h3 => callD (f86 _ _ _) ?_, fun h3 => ?_⟩⟩⟩⟩
  all_goals (try simp only [vmA, Nat.reduceEqDiff, reduceIte, Nat.reduceAdd, Nat.reduceBEq, reduceCtorEq, Nat.reduceLT, Int.reduceLE, Int.reduceLT, Int.reduceEq, Nat.reduceMul, Nat.reduceLeDiff])
  · (refine hQ _ ?_; simp only [vmA, Nat.reduceEqDiff, reduceIte, Nat.reduceAdd, Nat.reduceBEq, reduceCtorEq, Nat.reduceLT, Int.reduceLE, Int.reduceLT, Int.reduceEq, Nat.reduceMul, Nat.reduceLeDiff, Try.f69, retG, resL, St.closeVs, St.closeV])
    exact leafB (by simp [valP, h0, e])
  · (refine hQ _ ?_; simp only [vmA, Nat.reduceEqDiff, reduceIte, Nat.reduceAdd, Nat.reduceBEq, reduceCtorEq, Nat.reduceLT, Int.reduceLE, Int.reduceLT, Int.reduceEq, Nat.reduceMul, Nat.reduceLeDiff, Try.f69, retG, resL, St.closeVs, St.closeV])
    exact leafF (by simp [valP, h0, e])
  · refine ⟨fun e => ?_, fun e => ?_⟩ <;> (refine hQ _ ?_; simp only [vmA, Nat.reduceEqDiff, reduceIte, Nat.reduceAdd, Nat.reduceBEq, reduceCtorEq, Nat.reduceLT, Int.reduceLE, Int.reduceLT, Int.reduceEq, Nat.reduceMul, Nat.reduceLeDiff, Try.f69, retG, resL, St.closeVs, St.closeV])
    · exact leafB (by simp [valP, h1, e])
    · exact leafF (by simp [valP, h1]; intro _ h; omega)
  · (refine hQ _ ?_; simp only [vmA, Nat.reduceEqDiff, reduceIte, Nat.reduceAdd, Nat.reduceBEq, reduceCtorEq, Nat.reduceLT, Int.reduceLE, Int.reduceLT, Int.reduceEq, Nat.reduceMul, Nat.reduceLeDiff, Try.f69, retG, resL, St.closeVs, St.closeV])
    exact leafB (by simp [valP, h2, e]; exact ⟨fun h => ⟨h.2, h.1⟩, fun h => ⟨h.2, h.1⟩⟩)
  · (refine hQ _ ?_; simp only [vmA, Nat.reduceEqDiff, reduceIte, Nat.reduceAdd, Nat.reduceBEq, reduceCtorEq, Nat.reduceLT, Int.reduceLE, Int.reduceLT, Int.reduceEq, Nat.reduceMul, Nat.reduceLeDiff, Try.f69, retG, resL, St.closeVs, St.closeV])
    exact leafF (by simp [valP, h2, e])
  · refine ⟨fun e => ?_, fun e => ?_⟩ <;> (refine hQ _ ?_; simp only [vmA, Nat.reduceEqDiff, reduceIte, Nat.reduceAdd, Nat.reduceBEq, reduceCtorEq, Nat.reduceLT, Int.reduceLE, Int.reduceLT, Int.reduceEq, Nat.reduceMul, Nat.reduceLeDiff, Try.f69, retG, resL, St.closeVs, St.closeV])
    · exact leafB (by simp [valP, h3, e])
    · exact leafF (by simp [valP, h3]; exact fun _ h => by omega)
  · (refine hQ _ ?_; simp only [vmA, Nat.reduceEqDiff, reduceIte, Nat.reduceAdd, Nat.reduceBEq, reduceCtorEq, Nat.reduceLT, Int.reduceLE, Int.reduceLT, Int.reduceEq, Nat.reduceMul, Nat.reduceLeDiff, Try.f69, retG, resL, St.closeVs, St.closeV])
    exact leafF (by simp [valP, h0, h1, h2, h3])
theorem f79 (v : Val) (hs : okV v) : Fx 79 [vA v] (.bool (decide (¬ valP v))) := by
  refine fn_of false Try.func79 (by kernel_rfl) rfl (by kernel_rfl) (by kernel_rfl) (Nat.le_of_ble_eq_true rfl) rfl fun Q hQ => ?_
  simp only [vmA, Nat.reduceEqDiff, reduceIte, Nat.reduceAdd, Nat.reduceBEq, reduceCtorEq, Nat.reduceLT, Int.reduceLE, Int.reduceLT, Int.reduceEq, Nat.reduceMul, Nat.reduceLeDiff, vA]
  refine callD (f47 v hs) ?_
  simp only [vmA, Nat.reduceEqDiff, reduceIte, Nat.reduceAdd, Nat.reduceBEq, reduceCtorEq, Nat.reduceLT, Int.reduceLE, Int.reduceLT, Int.reduceEq, Nat.reduceMul, Nat.reduceLeDiff]
  (refine hQ _ ?_; simp only [vmA, Nat.reduceEqDiff, reduceIte, Nat.reduceAdd, Nat.reduceBEq, reduceCtorEq, Nat.reduceLT, Int.reduceLE, Int.reduceLT, Int.reduceEq, Nat.reduceMul, Nat.reduceLeDiff, Try.f79, retG, resL, St.closeVs, St.closeV])
theorem f90 (xs : List Val) (c : Bool) (hl : xs.length ≤ 9223372036854775807) (hs : ∀ v ∈ xs, okV v) : Fx 90 [.fro none c (xs.map vA), .clo 79 []] (.int .i64 (idxL (fun v => ¬ valP v) xs 0)) := by
  refine fn_of false Try.func90 (by kernel_rfl) rfl (by kernel_rfl) (by kernel_rfl) (Nat.le_of_ble_eq_true rfl) rfl fun Q hQ => ?_
  simp only [vmA, Nat.reduceEqDiff, reduceIte, Nat.reduceAdd, Nat.reduceBEq, reduceCtorEq, Nat.reduceLT, Int.reduceLE, Int.reduceLT, Int.reduceEq, Nat.reduceMul, Nat.reduceLeDiff]
  refine WT_loop (fun (i : Nat) σ => i ≤ xs.length ∧ σ.sl 0 = .fro none c (xs.map vA) ∧ σ.sl 1 = .clo 79 [] ∧ σ.sl 7 = .int .i64 xs.length ∧ σ.sl 8 = .int .i64 i ∧ idxL (fun v => ¬ valP v) (xs.drop i) i = idxL (fun v => ¬ valP v) xs 0) (fun i => xs.length - i) 0 ⟨by omega, by simp [put_sl, put_en, put_none, init_sl, fresh_sl, fresh_en, ent_sl, ent_en, init_en], by simp [put_sl, put_en, put_none, init_sl, fresh_sl, fresh_en, ent_sl, ent_en, init_en], by simp [put_sl, put_en, put_none, init_sl, fresh_sl, fresh_en, ent_sl, ent_en, init_en], by simp [put_sl, put_en, put_none, init_sl, fresh_sl, fresh_en, ent_sl, ent_en, init_en], by simp⟩ ?_
  rintro i σ ⟨hi, e0, e1, e7, e8, hx⟩
  simp only [vmA, Nat.reduceEqDiff, reduceIte, Nat.reduceAdd, Nat.reduceBEq, reduceCtorEq, Nat.reduceLT, Int.reduceLE, Int.reduceLT, Int.reduceEq, Nat.reduceMul, Nat.reduceLeDiff, e0, e1, e7, e8, vA]
  refine ⟨fun hlt => ?_, fun hge => ?_⟩
  · refine ⟨hlt, by omega, callD (f79 xs[i]! (okmem hs (by omega))) ?_⟩
    rw [idxL_drop _ (by omega)] at hx
    simp only [vmA, Nat.reduceEqDiff, reduceIte, Nat.reduceAdd, Nat.reduceBEq, reduceCtorEq, Nat.reduceLT, Int.reduceLE, Int.reduceLT, Int.reduceEq, Nat.reduceMul, Nat.reduceLeDiff, e0, e1, e7, e8]
    refine ⟨fun hn => ?_, fun hn => ?_⟩
    · rw [if_pos hn] at hx
      (refine hQ _ ?_; simp only [vmA, Nat.reduceEqDiff, reduceIte, Nat.reduceAdd, Nat.reduceBEq, reduceCtorEq, Nat.reduceLT, Int.reduceLE, Int.reduceLT, Int.reduceEq, Nat.reduceMul, Nat.reduceLeDiff, Try.f90, retG, resL, St.closeVs, St.closeV])
      rw [hx]
    · rw [if_neg (by simpa using hn)] at hx
      rw [wr (by omega)]
      exact ⟨i + 1, ⟨by omega, rfl, hx⟩, by omega⟩
  · have : xs.drop i = [] := List.drop_of_length_le (by omega)
    rw [this, idxL] at hx
    (refine hQ _ ?_; simp only [vmA, Nat.reduceEqDiff, reduceIte, Nat.reduceAdd, Nat.reduceBEq, reduceCtorEq, Nat.reduceLT, Int.reduceLE, Int.reduceLT, Int.reduceEq, Nat.reduceMul, Nat.reduceLeDiff, Try.f90, retG, resL, St.closeVs, St.closeV])
    rw [← hx]
def rowP (xs : List Val) : Prop := xs.length ≤ 4 ∧ ∀ v ∈ xs, valP v
instance (xs : List Val) : Decidable (rowP xs) := by unfold rowP; exact inferInstance
theorem f78 (xs : List Val) (c : Bool) (hl : xs.length ≤ 9223372036854775807) (hs : ∀ v ∈ xs, okV v) : Fx 78 [.fro none c (xs.map vA), .clo 79 []] (.bool (decide (∃ v ∈ xs, ¬ valP v))) := by
  refine fn_of false Try.func78 (by kernel_rfl) rfl (by kernel_rfl) (by kernel_rfl) (Nat.le_of_ble_eq_true rfl) rfl fun Q hQ => ?_
  simp only [vmA, Nat.reduceEqDiff, reduceIte, Nat.reduceAdd, Nat.reduceBEq, reduceCtorEq, Nat.reduceLT, Int.reduceLE, Int.reduceLT, Int.reduceEq, Nat.reduceMul, Nat.reduceLeDiff]
  refine callD (f90 xs c hl hs) ?_
  simp only [vmA, Nat.reduceEqDiff, reduceIte, Nat.reduceAdd, Nat.reduceBEq, reduceCtorEq, Nat.reduceLT, Int.reduceLE, Int.reduceLT, Int.reduceEq, Nat.reduceMul, Nat.reduceLeDiff]
  (refine hQ _ ?_; simp only [vmA, Nat.reduceEqDiff, reduceIte, Nat.reduceAdd, Nat.reduceBEq, reduceCtorEq, Nat.reduceLT, Int.reduceLE, Int.reduceLT, Int.reduceEq, Nat.reduceMul, Nat.reduceLeDiff, Try.f78, retG, resL, St.closeVs, St.closeV])
  exact leafB (idxL_ge (fun v => ¬ valP v) xs 0 (by omega))
theorem f58 (xs : List Val) (c : Bool) (hl : xs.length ≤ 9223372036854775807) (hs : ∀ v ∈ xs, okV v) : Fx 58 [.fro none c (xs.map vA)] (.bool (decide (rowP xs))) := by
  refine fn_of false Try.func58 (by kernel_rfl) rfl (by kernel_rfl) (by kernel_rfl) (Nat.le_of_ble_eq_true rfl) rfl fun Q hQ => ?_
  simp only [vmA, Nat.reduceEqDiff, reduceIte, Nat.reduceAdd, Nat.reduceBEq, reduceCtorEq, Nat.reduceLT, Int.reduceLE, Int.reduceLT, Int.reduceEq, Nat.reduceMul, Nat.reduceLeDiff]
  refine ⟨fun h => callD (f78 xs c hl hs) ?_, fun h => ?_⟩
  · simp only [vmA, Nat.reduceEqDiff, reduceIte, Nat.reduceAdd, Nat.reduceBEq, reduceCtorEq, Nat.reduceLT, Int.reduceLE, Int.reduceLT, Int.reduceEq, Nat.reduceMul, Nat.reduceLeDiff]
    (refine hQ _ ?_; simp only [vmA, Nat.reduceEqDiff, reduceIte, Nat.reduceAdd, Nat.reduceBEq, reduceCtorEq, Nat.reduceLT, Int.reduceLE, Int.reduceLT, Int.reduceEq, Nat.reduceMul, Nat.reduceLeDiff, Try.f58, retG, resL, St.closeVs, St.closeV])
    refine leafB ?_
    unfold rowP
    simp
    omega
  · (refine hQ _ ?_; simp only [vmA, Nat.reduceEqDiff, reduceIte, Nat.reduceAdd, Nat.reduceBEq, reduceCtorEq, Nat.reduceLT, Int.reduceLE, Int.reduceLT, Int.reduceEq, Nat.reduceMul, Nat.reduceLeDiff, Try.f58, retG, resL, St.closeVs, St.closeV])
    exact leafF (by unfold rowP; omega)
theorem f54 (xs : List Val) (c : Bool) (hl : xs.length ≤ 9223372036854775807) (hs : ∀ v ∈ xs, okV v) : Fx 54 [.fro none c (xs.map vA)] (.bool (decide (rowP xs))) := by
  refine fn_of false Try.func54 (by kernel_rfl) rfl (by kernel_rfl) (by kernel_rfl) (Nat.le_of_ble_eq_true rfl) rfl fun Q hQ => ?_
  simp only [vmA, Nat.reduceEqDiff, reduceIte, Nat.reduceAdd, Nat.reduceBEq, reduceCtorEq, Nat.reduceLT, Int.reduceLE, Int.reduceLT, Int.reduceEq, Nat.reduceMul, Nat.reduceLeDiff]
  refine WT_loop (fun (i : Nat) σ => i ≤ xs.length ∧ σ.sl 0 = .fro none c (xs.map vA) ∧ σ.sl 3 = .int .i64 i ∧ ∀ v ∈ xs.take i, valP v) (fun i => xs.length - i) 0 ⟨by omega, by simp [put_sl, put_en, put_none, init_sl, fresh_sl, fresh_en, ent_sl, ent_en, init_en], by simp [put_sl, put_en, put_none, init_sl, fresh_sl, fresh_en, ent_sl, ent_en, init_en], by simp⟩ ?_
  rintro i σ ⟨hi, e0, e3, hall⟩
  simp only [vmA, Nat.reduceEqDiff, reduceIte, Nat.reduceAdd, Nat.reduceBEq, reduceCtorEq, Nat.reduceLT, Int.reduceLE, Int.reduceLT, Int.reduceEq, Nat.reduceMul, Nat.reduceLeDiff, e0, e3, vA]
  refine ⟨fun hlt => ?_, fun hge => ?_⟩
  · refine ⟨hlt, by omega, callD (f69 xs[i]! (okmem hs (by omega))) ?_⟩
    simp only [vmA, Nat.reduceEqDiff, reduceIte, Nat.reduceAdd, Nat.reduceBEq, reduceCtorEq, Nat.reduceLT, Int.reduceLE, Int.reduceLT, Int.reduceEq, Nat.reduceMul, Nat.reduceLeDiff, e0, e3]
    refine ⟨fun hn => ?_, fun hn => ?_⟩
    · (refine hQ _ ?_; simp only [vmA, Nat.reduceEqDiff, reduceIte, Nat.reduceAdd, Nat.reduceBEq, reduceCtorEq, Nat.reduceLT, Int.reduceLE, Int.reduceLT, Int.reduceEq, Nat.reduceMul, Nat.reduceLeDiff, Try.f54, retG, resL, St.closeVs, St.closeV])
      exact leafF fun h => hn (okmem h.2 (by omega))
    · rw [wr (by omega)]
      refine ⟨i + 1, ⟨by omega, rfl, fun v hv => ?_⟩, by omega⟩
      rw [List.take_succ_eq_append_getElem (by omega)] at hv
      rcases List.mem_append.1 hv with h | h
      · exact hall v h
      · have : v = xs[i]! := by rw [getElem!_pos xs i (by omega)]; simpa using h
        subst this; exact hn
  · (refine hQ _ ?_; simp only [vmA, Nat.reduceEqDiff, reduceIte, Nat.reduceAdd, Nat.reduceBEq, reduceCtorEq, Nat.reduceLT, Int.reduceLE, Int.reduceLT, Int.reduceEq, Nat.reduceMul, Nat.reduceLeDiff, Try.f54, retG, resL, St.closeVs, St.closeV])
    refine leafB ?_
    have : ∀ v ∈ xs, valP v := fun v hv => hall v (by rw [List.take_of_length_le (by omega)]; exact hv)
    exact ⟨fun h => ⟨by omega, this⟩, fun h => by have := h.1; omega⟩
