/- WALK of functions of the seat, or plain laws for it: each theorem f<k> says what function k returns, for every world and all arguments that stand for the values named. Conditions: none but those ahead of each theorem. -/
import Derived.Test.YtboeimkfcfdabaaWT1
import Derived.Test.YtboeimkfcfdabaaWA2
open Go Go.Vm Go.Proofs
set_option maxRecDepth 100000
set_option maxHeartbeats 8000000
set_option linter.unusedSimpArgs false
set_option linter.unusedVariables false
set_option maxHeartbeats 8000000
set_option linter.unusedSimpArgs false
set_option linter.unusedVariables false
abbrev v0 : Val := ⟨0, 0, ⟨⟨[]⟩⟩⟩
theorem f93 (xs : List UInt8) (c : Bool) (p n : Int) (hl : xs.length ≤ 2000) (h0 : 0 ≤ p) (h1 : p ≤ 1099511627000) (hn : n = 0 ∨ 0 < n ∧ n ≤ 1000000) : FxR 93 [rdP xs c p, .int .i64 n] fun r l => ∃ (v : Val) (q : Int), r = vA v ∧ v.s.size ≤ 20 ∧ p ≤ q ∧ q ≤ p + 12 ∧ l = rdP xs c q := by
  refine fn_ofWX ⟨false, [], [(17, [], [0, 1, 2, 3, 4, 5, 6, 7, 8, 9, 10])]⟩ (k := 0) Try.func93 (by kernel_rfl) rfl (by kernel_rfl) (by kernel_rfl) (Nat.le_of_ble_eq_true rfl) rfl ⟨_, _, .inr ⟨_, _, rfl⟩⟩ rfl fun Q hQ => ?_
  simp only [tr_seq, tr_block, tr_loop, tr_cond, tr_skip, tr_exit, tr_ret, tr_reg]
  rw [tr_any 17 [(0, [], 0), (0, [], 1), (0, [], 2), (1, [0, 1, 2], 3), (0, [], 4), (0, [], 5), (1, [0, 1, 4, 5], 6), (0, [], 7), (0, [], 8), (0, [], 9), (1, [0, 1, 7, 8, 9], 10), (2, [], 0)] (by kernel_rfl)]
  simp only [codeA_nil, codeA_look, codeA_hard, codeA_fin, ordC_leaf, ordC_one, ordC_both, pickL, List.getElem?_toArray, List.getElem?_cons_zero, List.getElem?_cons_succ]
  simp only [vmC, Nat.reduceEqDiff, reduceIte, Nat.reduceAdd, Nat.reduceBEq, reduceCtorEq, Nat.reduceLT, Int.reduceLE, Int.reduceLT, Int.reduceEq, Nat.reduceMul, Nat.reduceLeDiff, rdP, rdA, vA]
  refine callR (f35 xs c p 7 hl h0 (by omega)) ?_
  rintro _ _ ⟨k, rfl, hk0, hkn, rfl⟩
  simp only [vmC, Nat.reduceEqDiff, reduceIte, Nat.reduceAdd, Nat.reduceBEq, reduceCtorEq, Nat.reduceLT, Int.reduceLE, Int.reduceLT, Int.reduceEq, Nat.reduceMul, Nat.reduceLeDiff, rdP, rdA, vA]
  refine WT_mid (fun (zz : Val × Int) σ => (zz.1.s.size ≤ 3 ∧ p ≤ zz.2 ∧ zz.2 ≤ p + 9) ∧ σ.sl 0 = .ptr 0 1 0 0 ∧ (σ.en 0).live = true ∧ (σ.en 0).gen = 1 ∧ (σ.en 0).frz = false ∧ (σ.en 0).sz = 2 ∧ (σ.en 0).elems = [rdA xs c zz.2] ∧ σ.sl 1 = .int .i64 n ∧ σ.sl 4 = .ptr 256 1 0 0 ∧ (σ.en 256).live = true ∧ (σ.en 256).gen = 1 ∧ (σ.en 256).frz = false ∧ (σ.en 256).sz = 3 ∧ (σ.en 256).elems = [vA v0] ∧ σ.sl 5 = .ptr 320 1 0 0 ∧ (σ.en 320).live = true ∧ (σ.en 320).gen = 1 ∧ (σ.en 320).frz = false ∧ (σ.en 320).sz = 3 ∧ (σ.en 320).elems = [vA zz.1]) ?_ ?_
  · simp only [vmA, Nat.reduceEqDiff, reduceIte, Nat.reduceAdd, Nat.reduceBEq, reduceCtorEq, Nat.reduceLT, Int.reduceLE, Int.reduceLT, Int.reduceEq, Nat.reduceMul, Nat.reduceLeDiff, rdP, rdA, vA]
    refine ⟨fun k0 => ⟨(v0, p + 1), ⟨by show (0 : Nat) ≤ 3; omega, by dsimp only; omega, by dsimp only; omega⟩, rfl, rfl⟩, fun _ => ⟨fun k1 => ?_, fun _ => ⟨fun k1 => ?_, fun _ => ⟨fun k1 => ?_, fun _ => ⟨fun k1 => ?_, fun _ => ⟨fun k1 => ?_, fun _ => ?_⟩⟩⟩⟩⟩⟩
    · refine callR (f35 xs c (p + 1) 7 hl (by omega) (by omega)) ?_
      rintro _ _ ⟨j, rfl, hj0, hjn, rfl⟩
      simp only [vmA, Nat.reduceEqDiff, reduceIte, Nat.reduceAdd, Nat.reduceBEq, reduceCtorEq, Nat.reduceLT, Int.reduceLE, Int.reduceLT, Int.reduceEq, Nat.reduceMul, Nat.reduceLeDiff, rdP, rdA, vA]
      refine callR (f35 xs c (p + 1 + 1) 8 hl (by omega) (by omega)) ?_
      rintro _ _ ⟨j2, rfl, hj20, hj2n, rfl⟩
      simp only [vmA, Nat.reduceEqDiff, reduceIte, Nat.reduceAdd, Nat.reduceBEq, reduceCtorEq, Nat.reduceLT, Int.reduceLE, Int.reduceLT, Int.reduceEq, Nat.reduceMul, Nat.reduceLeDiff, rdP, rdA, vA]
      refine ⟨fun h => callR (f35 xs c (p + 1 + 1 + 1) 5 hl (by omega) (by omega)) ?_, fun h => ?_⟩
      · rintro _ _ ⟨i, rfl, hi0, hin, rfl⟩
        obtain rfl | rfl | rfl | rfl | rfl : i = 0 ∨ i = 1 ∨ i = 2 ∨ i = 3 ∨ i = 4 := by omega
        · simp only [vmA, Nat.reduceEqDiff, reduceIte, Nat.reduceAdd, Nat.reduceBEq, reduceCtorEq, Nat.reduceLT, Int.reduceLE, Int.reduceLT, Int.reduceEq, Nat.reduceMul, Nat.reduceLeDiff, rdP, rdA, vA, Int.toNat_zero, Int.toNat_one, Int.reduceToNat]
          exact ⟨by omega, (⟨1, _, ⟨⟨[]⟩⟩⟩, p + 1 + 1 + 1 + 1), ⟨by show (0 : Nat) ≤ 3; omega, by dsimp only; omega, by dsimp only; omega⟩, rfl, rfl⟩
        · simp only [vmA, Nat.reduceEqDiff, reduceIte, Nat.reduceAdd, Nat.reduceBEq, reduceCtorEq, Nat.reduceLT, Int.reduceLE, Int.reduceLT, Int.reduceEq, Nat.reduceMul, Nat.reduceLeDiff, rdP, rdA, vA, Int.toNat_zero, Int.toNat_one, Int.reduceToNat]
          exact ⟨by omega, (⟨1, _, ⟨⟨[]⟩⟩⟩, p + 1 + 1 + 1 + 1), ⟨by show (0 : Nat) ≤ 3; omega, by dsimp only; omega, by dsimp only; omega⟩, rfl, rfl⟩
        · simp only [vmA, Nat.reduceEqDiff, reduceIte, Nat.reduceAdd, Nat.reduceBEq, reduceCtorEq, Nat.reduceLT, Int.reduceLE, Int.reduceLT, Int.reduceEq, Nat.reduceMul, Nat.reduceLeDiff, rdP, rdA, vA, Int.toNat_zero, Int.toNat_one, Int.reduceToNat]
          exact ⟨by omega, (⟨1, _, ⟨⟨[]⟩⟩⟩, p + 1 + 1 + 1 + 1), ⟨by show (0 : Nat) ≤ 3; omega, by dsimp only; omega, by dsimp only; omega⟩, rfl, rfl⟩
        · simp only [vmA, Nat.reduceEqDiff, reduceIte, Nat.reduceAdd, Nat.reduceBEq, reduceCtorEq, Nat.reduceLT, Int.reduceLE, Int.reduceLT, Int.reduceEq, Nat.reduceMul, Nat.reduceLeDiff, rdP, rdA, vA, Int.toNat_zero, Int.toNat_one, Int.reduceToNat]
          exact ⟨by omega, (⟨1, _, ⟨⟨[]⟩⟩⟩, p + 1 + 1 + 1 + 1), ⟨by show (0 : Nat) ≤ 3; omega, by dsimp only; omega, by dsimp only; omega⟩, rfl, rfl⟩
        · simp only [vmA, Nat.reduceEqDiff, reduceIte, Nat.reduceAdd, Nat.reduceBEq, reduceCtorEq, Nat.reduceLT, Int.reduceLE, Int.reduceLT, Int.reduceEq, Nat.reduceMul, Nat.reduceLeDiff, rdP, rdA, vA, Int.toNat_zero, Int.toNat_one, Int.reduceToNat]
          exact ⟨by omega, (⟨1, _, ⟨⟨[]⟩⟩⟩, p + 1 + 1 + 1 + 1), ⟨by show (0 : Nat) ≤ 3; omega, by dsimp only; omega, by dsimp only; omega⟩, rfl, rfl⟩
      · exact ⟨(⟨1, _, ⟨⟨[]⟩⟩⟩, p + 1 + 1 + 1), ⟨by show (0 : Nat) ≤ 3; omega, by dsimp only; omega, by dsimp only; omega⟩, rfl, rfl⟩
    · refine callR (f35 xs c (p + 1) 7 hl (by omega) (by omega)) ?_
      rintro _ _ ⟨j, rfl, hj0, hjn, rfl⟩
      simp only [vmA, Nat.reduceEqDiff, reduceIte, Nat.reduceAdd, Nat.reduceBEq, reduceCtorEq, Nat.reduceLT, Int.reduceLE, Int.reduceLT, Int.reduceEq, Nat.reduceMul, Nat.reduceLeDiff, rdP, rdA, vA]
      refine callR (f35 xs c (p + 1 + 1) 8 hl (by omega) (by omega)) ?_
      rintro _ _ ⟨j2, rfl, hj20, hj2n, rfl⟩
      simp only [vmA, Nat.reduceEqDiff, reduceIte, Nat.reduceAdd, Nat.reduceBEq, reduceCtorEq, Nat.reduceLT, Int.reduceLE, Int.reduceLT, Int.reduceEq, Nat.reduceMul, Nat.reduceLeDiff, rdP, rdA, vA]
      refine ⟨fun h => callR (f35 xs c (p + 1 + 1 + 1) 5 hl (by omega) (by omega)) ?_, fun h => ?_⟩
      · rintro _ _ ⟨i, rfl, hi0, hin, rfl⟩
        obtain rfl | rfl | rfl | rfl | rfl : i = 0 ∨ i = 1 ∨ i = 2 ∨ i = 3 ∨ i = 4 := by omega
        · simp only [vmA, Nat.reduceEqDiff, reduceIte, Nat.reduceAdd, Nat.reduceBEq, reduceCtorEq, Nat.reduceLT, Int.reduceLE, Int.reduceLT, Int.reduceEq, Nat.reduceMul, Nat.reduceLeDiff, rdP, rdA, vA, Int.toNat_zero, Int.toNat_one, Int.reduceToNat]
          exact ⟨by omega, (⟨1, _, ⟨⟨[]⟩⟩⟩, p + 1 + 1 + 1 + 1), ⟨by show (0 : Nat) ≤ 3; omega, by dsimp only; omega, by dsimp only; omega⟩, rfl, rfl⟩
        · simp only [vmA, Nat.reduceEqDiff, reduceIte, Nat.reduceAdd, Nat.reduceBEq, reduceCtorEq, Nat.reduceLT, Int.reduceLE, Int.reduceLT, Int.reduceEq, Nat.reduceMul, Nat.reduceLeDiff, rdP, rdA, vA, Int.toNat_zero, Int.toNat_one, Int.reduceToNat]
          exact ⟨by omega, (⟨1, _, ⟨⟨[]⟩⟩⟩, p + 1 + 1 + 1 + 1), ⟨by show (0 : Nat) ≤ 3; omega, by dsimp only; omega, by dsimp only; omega⟩, rfl, rfl⟩
        · simp only [vmA, Nat.reduceEqDiff, reduceIte, Nat.reduceAdd, Nat.reduceBEq, reduceCtorEq, Nat.reduceLT, Int.reduceLE, Int.reduceLT, Int.reduceEq, Nat.reduceMul, Nat.reduceLeDiff, rdP, rdA, vA, Int.toNat_zero, Int.toNat_one, Int.reduceToNat]
          exact ⟨by omega, (⟨1, _, ⟨⟨[]⟩⟩⟩, p + 1 + 1 + 1 + 1), ⟨by show (0 : Nat) ≤ 3; omega, by dsimp only; omega, by dsimp only; omega⟩, rfl, rfl⟩
        · simp only [vmA, Nat.reduceEqDiff, reduceIte, Nat.reduceAdd, Nat.reduceBEq, reduceCtorEq, Nat.reduceLT, Int.reduceLE, Int.reduceLT, Int.reduceEq, Nat.reduceMul, Nat.reduceLeDiff, rdP, rdA, vA, Int.toNat_zero, Int.toNat_one, Int.reduceToNat]
          exact ⟨by omega, (⟨1, _, ⟨⟨[]⟩⟩⟩, p + 1 + 1 + 1 + 1), ⟨by show (0 : Nat) ≤ 3; omega, by dsimp only; omega, by dsimp only; omega⟩, rfl, rfl⟩
        · simp only [vmA, Nat.reduceEqDiff, reduceIte, Nat.reduceAdd, Nat.reduceBEq, reduceCtorEq, Nat.reduceLT, Int.reduceLE, Int.reduceLT, Int.reduceEq, Nat.reduceMul, Nat.reduceLeDiff, rdP, rdA, vA, Int.toNat_zero, Int.toNat_one, Int.reduceToNat]
          exact ⟨by omega, (⟨1, _, ⟨⟨[]⟩⟩⟩, p + 1 + 1 + 1 + 1), ⟨by show (0 : Nat) ≤ 3; omega, by dsimp only; omega, by dsimp only; omega⟩, rfl, rfl⟩
      · exact ⟨(⟨1, _, ⟨⟨[]⟩⟩⟩, p + 1 + 1 + 1), ⟨by show (0 : Nat) ≤ 3; omega, by dsimp only; omega, by dsimp only; omega⟩, rfl, rfl⟩
    · refine callR (f35 xs c (p + 1) 7 hl (by omega) (by omega)) ?_
      rintro _ _ ⟨j, rfl, hj0, hjn, rfl⟩
      simp only [vmA, Nat.reduceEqDiff, reduceIte, Nat.reduceAdd, Nat.reduceBEq, reduceCtorEq, Nat.reduceLT, Int.reduceLE, Int.reduceLT, Int.reduceEq, Nat.reduceMul, Nat.reduceLeDiff, rdP, rdA, vA]
      refine callR (f35 xs c (p + 1 + 1) 8 hl (by omega) (by omega)) ?_
      rintro _ _ ⟨j2, rfl, hj20, hj2n, rfl⟩
      simp only [vmA, Nat.reduceEqDiff, reduceIte, Nat.reduceAdd, Nat.reduceBEq, reduceCtorEq, Nat.reduceLT, Int.reduceLE, Int.reduceLT, Int.reduceEq, Nat.reduceMul, Nat.reduceLeDiff, rdP, rdA, vA]
      refine ⟨fun h => callR (f35 xs c (p + 1 + 1 + 1) 5 hl (by omega) (by omega)) ?_, fun h => ?_⟩
      · rintro _ _ ⟨i, rfl, hi0, hin, rfl⟩
        obtain rfl | rfl | rfl | rfl | rfl : i = 0 ∨ i = 1 ∨ i = 2 ∨ i = 3 ∨ i = 4 := by omega
        · simp only [vmA, Nat.reduceEqDiff, reduceIte, Nat.reduceAdd, Nat.reduceBEq, reduceCtorEq, Nat.reduceLT, Int.reduceLE, Int.reduceLT, Int.reduceEq, Nat.reduceMul, Nat.reduceLeDiff, rdP, rdA, vA, Int.toNat_zero, Int.toNat_one, Int.reduceToNat]
          exact ⟨by omega, (⟨1, _, ⟨⟨[]⟩⟩⟩, p + 1 + 1 + 1 + 1), ⟨by show (0 : Nat) ≤ 3; omega, by dsimp only; omega, by dsimp only; omega⟩, rfl, rfl⟩
        · simp only [vmA, Nat.reduceEqDiff, reduceIte, Nat.reduceAdd, Nat.reduceBEq, reduceCtorEq, Nat.reduceLT, Int.reduceLE, Int.reduceLT, Int.reduceEq, Nat.reduceMul, Nat.reduceLeDiff, rdP, rdA, vA, Int.toNat_zero, Int.toNat_one, Int.reduceToNat]
          exact ⟨by omega, (⟨1, _, ⟨⟨[]⟩⟩⟩, p + 1 + 1 + 1 + 1), ⟨by show (0 : Nat) ≤ 3; omega, by dsimp only; omega, by dsimp only; omega⟩, rfl, rfl⟩
        · simp only [vmA, Nat.reduceEqDiff, reduceIte, Nat.reduceAdd, Nat.reduceBEq, reduceCtorEq, Nat.reduceLT, Int.reduceLE, Int.reduceLT, Int.reduceEq, Nat.reduceMul, Nat.reduceLeDiff, rdP, rdA, vA, Int.toNat_zero, Int.toNat_one, Int.reduceToNat]
          exact ⟨by omega, (⟨1, _, ⟨⟨[]⟩⟩⟩, p + 1 + 1 + 1 + 1), ⟨by show (0 : Nat) ≤ 3; omega, by dsimp only; omega, by dsimp only; omega⟩, rfl, rfl⟩
        · simp only [vmA, Nat.reduceEqDiff, reduceIte, Nat.reduceAdd, Nat.reduceBEq, reduceCtorEq, Nat.reduceLT, Int.reduceLE, Int.reduceLT, Int.reduceEq, Nat.reduceMul, Nat.reduceLeDiff, rdP, rdA, vA, Int.toNat_zero, Int.toNat_one, Int.reduceToNat]
          exact ⟨by omega, (⟨1, _, ⟨⟨[]⟩⟩⟩, p + 1 + 1 + 1 + 1), ⟨by show (0 : Nat) ≤ 3; omega, by dsimp only; omega, by dsimp only; omega⟩, rfl, rfl⟩
        · simp only [vmA, Nat.reduceEqDiff, reduceIte, Nat.reduceAdd, Nat.reduceBEq, reduceCtorEq, Nat.reduceLT, Int.reduceLE, Int.reduceLT, Int.reduceEq, Nat.reduceMul, Nat.reduceLeDiff, rdP, rdA, vA, Int.toNat_zero, Int.toNat_one, Int.reduceToNat]
          exact ⟨by omega, (⟨1, _, ⟨⟨[]⟩⟩⟩, p + 1 + 1 + 1 + 1), ⟨by show (0 : Nat) ≤ 3; omega, by dsimp only; omega, by dsimp only; omega⟩, rfl, rfl⟩
      · exact ⟨(⟨1, _, ⟨⟨[]⟩⟩⟩, p + 1 + 1 + 1), ⟨by show (0 : Nat) ≤ 3; omega, by dsimp only; omega, by dsimp only; omega⟩, rfl, rfl⟩
    · refine callR (f35 xs c (p + 1) 4 hl (by omega) (by omega)) ?_
      rintro _ _ ⟨j, rfl, hj0, hjn, rfl⟩
      simp only [vmA, Nat.reduceEqDiff, reduceIte, Nat.reduceAdd, Nat.reduceBEq, reduceCtorEq, Nat.reduceLT, Int.reduceLE, Int.reduceLT, Int.reduceEq, Nat.reduceMul, Nat.reduceLeDiff, rdP, rdA, vA]
      refine WT_loop (fun (zz : Int × ByteArray × Int) σ => (0 ≤ zz.1 ∧ zz.2.1.size + zz.1 ≤ 3 ∧ p ≤ zz.2.2 ∧ zz.2.2 + zz.1 ≤ p + 9) ∧ σ.sl 6 = .int .i64 zz.1 ∧ σ.sl 0 = .ptr 0 1 0 0 ∧ (σ.en 0).live = true ∧ (σ.en 0).gen = 1 ∧ (σ.en 0).frz = false ∧ (σ.en 0).sz = 2 ∧ (σ.en 0).elems = [rdA xs c zz.2.2] ∧ σ.sl 1 = .int .i64 n ∧ σ.sl 4 = .ptr 256 1 0 0 ∧ (σ.en 256).live = true ∧ (σ.en 256).gen = 1 ∧ (σ.en 256).frz = false ∧ (σ.en 256).sz = 3 ∧ (σ.en 256).elems = [vA v0] ∧ σ.sl 5 = .ptr 320 1 0 0 ∧ (σ.en 320).live = true ∧ (σ.en 320).gen = 1 ∧ (σ.en 320).frz = false ∧ (σ.en 320).sz = 3 ∧ (σ.en 320).elems = [vA ⟨2, 0, zz.2.1⟩]) (fun zz => zz.1.toNat) ((j, ⟨⟨[]⟩⟩, p + 1 + 1)) ⟨⟨by dsimp only; omega, by show ((0 : Nat) : Int) + j ≤ 3; omega, by dsimp only; omega, by dsimp only; omega⟩, by simp [put_sl, put_en, put_none, init_sl, fresh_sl, fresh_en, ent_sl, ent_en, init_en, rdA, vA], by simp [put_sl, put_en, put_none, init_sl, fresh_sl, fresh_en, ent_sl, ent_en, init_en, rdA, vA], by simp [put_sl, put_en, put_none, init_sl, fresh_sl, fresh_en, ent_sl, ent_en, init_en, rdA, vA], by simp [put_sl, put_en, put_none, init_sl, fresh_sl, fresh_en, ent_sl, ent_en, init_en, rdA, vA], by simp [put_sl, put_en, put_none, init_sl, fresh_sl, fresh_en, ent_sl, ent_en, init_en, rdA, vA], by simp [put_sl, put_en, put_none, init_sl, fresh_sl, fresh_en, ent_sl, ent_en, init_en, rdA, vA], by simp [put_sl, put_en, put_none, init_sl, fresh_sl, fresh_en, ent_sl, ent_en, init_en, rdA, vA], by simp [put_sl, put_en, put_none, init_sl, fresh_sl, fresh_en, ent_sl, ent_en, init_en, rdA, vA], by simp [put_sl, put_en, put_none, init_sl, fresh_sl, fresh_en, ent_sl, ent_en, init_en, rdA, vA], by simp [put_sl, put_en, put_none, init_sl, fresh_sl, fresh_en, ent_sl, ent_en, init_en, rdA, vA], by simp [put_sl, put_en, put_none, init_sl, fresh_sl, fresh_en, ent_sl, ent_en, init_en, rdA, vA], by simp [put_sl, put_en, put_none, init_sl, fresh_sl, fresh_en, ent_sl, ent_en, init_en, rdA, vA], by simp [put_sl, put_en, put_none, init_sl, fresh_sl, fresh_en, ent_sl, ent_en, init_en, rdA, vA], by simp [put_sl, put_en, put_none, init_sl, fresh_sl, fresh_en, ent_sl, ent_en, init_en, rdA, vA], by simp [put_sl, put_en, put_none, init_sl, fresh_sl, fresh_en, ent_sl, ent_en, init_en, rdA, vA], by simp [put_sl, put_en, put_none, init_sl, fresh_sl, fresh_en, ent_sl, ent_en, init_en, rdA, vA], by simp [put_sl, put_en, put_none, init_sl, fresh_sl, fresh_en, ent_sl, ent_en, init_en, rdA, vA], by simp [put_sl, put_en, put_none, init_sl, fresh_sl, fresh_en, ent_sl, ent_en, init_en, rdA, vA], by simp [put_sl, put_en, put_none, init_sl, fresh_sl, fresh_en, ent_sl, ent_en, init_en, rdA, vA], by simp [put_sl, put_en, put_none, init_sl, fresh_sl, fresh_en, ent_sl, ent_en, init_en, rdA, vA]⟩ ?_
      rintro ⟨i, s, q⟩ σ ⟨hi, e6, e0, m0a, m0b, m0c, m0d, m0e, e1, e4, m256a, m256b, m256c, m256d, m256e, e5, m320a, m320b, m320c, m320d, m320e⟩
      try dsimp only at e6 e0 m0a m0b m0c m0d m0e e1 e4 m256a m256b m256c m256d m256e e5 m320a m320b m320c m320d m320e hi
      simp only [vmA, Nat.reduceEqDiff, reduceIte, Nat.reduceAdd, Nat.reduceBEq, reduceCtorEq, Nat.reduceLT, Int.reduceLE, Int.reduceLT, Int.reduceEq, Nat.reduceMul, Nat.reduceLeDiff, e6, e0, m0a, m0b, m0c, m0d, m0e, e1, e4, m256a, m256b, m256c, m256d, m256e, e5, m320a, m320b, m320c, m320d, m320e, rdP, rdA, vA]
      refine ⟨fun h => callR (f35 xs c q 3 hl (by omega) (by omega)) ?_, fun h => ?_⟩
      · rintro _ _ ⟨j2, rfl, hj20, hj2n, rfl⟩
        have hb : ∀ n, binStr .add s (textOf [n]) = some (.str (s ++ textOf [n])) := fun n => binStr_add _ _ (by rw [textOf_one]; omega)
        simp only [vmA, Nat.reduceEqDiff, reduceIte, Nat.reduceAdd, Nat.reduceBEq, reduceCtorEq, Nat.reduceLT, Int.reduceLE, Int.reduceLT, Int.reduceEq, Nat.reduceMul, Nat.reduceLeDiff, e6, e0, m0a, m0b, m0c, m0d, m0e, e1, e4, m256a, m256b, m256c, m256d, m256e, e5, m320a, m320b, m320c, m320d, m320e, rdP, rdA, vA, ↓cv22, convS, bytesL, intsOf, Option.map_some, hb]
        rw [wr (x := i - 1) (by omega)]
        exact ⟨(i - 1, s ++ textOf [IntKind.u8.wrap (IntKind.i64.wrap (97 + j2))], q + 1), ⟨⟨by dsimp only; omega, by dsimp only; rw [ByteArray.size_append, textOf_one]; omega, by dsimp only; omega, by dsimp only; omega⟩, rfl, rfl, rfl⟩, by dsimp only; omega⟩
      · exact ⟨(⟨2, 0, s⟩, q), ⟨by dsimp only; omega, by dsimp only; omega, by dsimp only; omega⟩, rfl, rfl⟩
    · refine callR (f35 xs c (p + 1) 4 hl (by omega) (by omega)) ?_
      rintro _ _ ⟨j, rfl, hj0, hjn, rfl⟩
      simp only [vmA, Nat.reduceEqDiff, reduceIte, Nat.reduceAdd, Nat.reduceBEq, reduceCtorEq, Nat.reduceLT, Int.reduceLE, Int.reduceLT, Int.reduceEq, Nat.reduceMul, Nat.reduceLeDiff, rdP, rdA, vA]
      refine WT_loop (fun (zz : Int × ByteArray × Int) σ => (0 ≤ zz.1 ∧ zz.2.1.size + zz.1 ≤ 3 ∧ p ≤ zz.2.2 ∧ zz.2.2 + zz.1 ≤ p + 9) ∧ σ.sl 6 = .int .i64 zz.1 ∧ σ.sl 0 = .ptr 0 1 0 0 ∧ (σ.en 0).live = true ∧ (σ.en 0).gen = 1 ∧ (σ.en 0).frz = false ∧ (σ.en 0).sz = 2 ∧ (σ.en 0).elems = [rdA xs c zz.2.2] ∧ σ.sl 1 = .int .i64 n ∧ σ.sl 4 = .ptr 256 1 0 0 ∧ (σ.en 256).live = true ∧ (σ.en 256).gen = 1 ∧ (σ.en 256).frz = false ∧ (σ.en 256).sz = 3 ∧ (σ.en 256).elems = [vA v0] ∧ σ.sl 5 = .ptr 320 1 0 0 ∧ (σ.en 320).live = true ∧ (σ.en 320).gen = 1 ∧ (σ.en 320).frz = false ∧ (σ.en 320).sz = 3 ∧ (σ.en 320).elems = [vA ⟨2, 0, zz.2.1⟩]) (fun zz => zz.1.toNat) ((j, ⟨⟨[]⟩⟩, p + 1 + 1)) ⟨⟨by dsimp only; omega, by show ((0 : Nat) : Int) + j ≤ 3; omega, by dsimp only; omega, by dsimp only; omega⟩, by simp [put_sl, put_en, put_none, init_sl, fresh_sl, fresh_en, ent_sl, ent_en, init_en, rdA, vA], by simp [put_sl, put_en, put_none, init_sl, fresh_sl, fresh_en, ent_sl, ent_en, init_en, rdA, vA], by simp [put_sl, put_en, put_none, init_sl, fresh_sl, fresh_en, ent_sl, ent_en, init_en, rdA, vA], by simp [put_sl, put_en, put_none, init_sl, fresh_sl, fresh_en, ent_sl, ent_en, init_en, rdA, vA], by simp [put_sl, put_en, put_none, init_sl, fresh_sl, fresh_en, ent_sl, ent_en, init_en, rdA, vA], by simp [put_sl, put_en, put_none, init_sl, fresh_sl, fresh_en, ent_sl, ent_en, init_en, rdA, vA], by simp [put_sl, put_en, put_none, init_sl, fresh_sl, fresh_en, ent_sl, ent_en, init_en, rdA, vA], by simp [put_sl, put_en, put_none, init_sl, fresh_sl, fresh_en, ent_sl, ent_en, init_en, rdA, vA], by simp [put_sl, put_en, put_none, init_sl, fresh_sl, fresh_en, ent_sl, ent_en, init_en, rdA, vA], by simp [put_sl, put_en, put_none, init_sl, fresh_sl, fresh_en, ent_sl, ent_en, init_en, rdA, vA], by simp [put_sl, put_en, put_none, init_sl, fresh_sl, fresh_en, ent_sl, ent_en, init_en, rdA, vA], by simp [put_sl, put_en, put_none, init_sl, fresh_sl, fresh_en, ent_sl, ent_en, init_en, rdA, vA], by simp [put_sl, put_en, put_none, init_sl, fresh_sl, fresh_en, ent_sl, ent_en, init_en, rdA, vA], by simp [put_sl, put_en, put_none, init_sl, fresh_sl, fresh_en, ent_sl, ent_en, init_en, rdA, vA], by simp [put_sl, put_en, put_none, init_sl, fresh_sl, fresh_en, ent_sl, ent_en, init_en, rdA, vA], by simp [put_sl, put_en, put_none, init_sl, fresh_sl, fresh_en, ent_sl, ent_en, init_en, rdA, vA], by simp [put_sl, put_en, put_none, init_sl, fresh_sl, fresh_en, ent_sl, ent_en, init_en, rdA, vA], by simp [put_sl, put_en, put_none, init_sl, fresh_sl, fresh_en, ent_sl, ent_en, init_en, rdA, vA], by simp [put_sl, put_en, put_none, init_sl, fresh_sl, fresh_en, ent_sl, ent_en, init_en, rdA, vA], by simp [put_sl, put_en, put_none, init_sl, fresh_sl, fresh_en, ent_sl, ent_en, init_en, rdA, vA]⟩ ?_
      rintro ⟨i, s, q⟩ σ ⟨hi, e6, e0, m0a, m0b, m0c, m0d, m0e, e1, e4, m256a, m256b, m256c, m256d, m256e, e5, m320a, m320b, m320c, m320d, m320e⟩
      try dsimp only at e6 e0 m0a m0b m0c m0d m0e e1 e4 m256a m256b m256c m256d m256e e5 m320a m320b m320c m320d m320e hi
      simp only [vmA, Nat.reduceEqDiff, reduceIte, Nat.reduceAdd, Nat.reduceBEq, reduceCtorEq, Nat.reduceLT, Int.reduceLE, Int.reduceLT, Int.reduceEq, Nat.reduceMul, Nat.reduceLeDiff, e6, e0, m0a, m0b, m0c, m0d, m0e, e1, e4, m256a, m256b, m256c, m256d, m256e, e5, m320a, m320b, m320c, m320d, m320e, rdP, rdA, vA]
      refine ⟨fun h => callR (f35 xs c q 3 hl (by omega) (by omega)) ?_, fun h => ?_⟩
      · rintro _ _ ⟨j2, rfl, hj20, hj2n, rfl⟩
        have hb : ∀ n, binStr .add s (textOf [n]) = some (.str (s ++ textOf [n])) := fun n => binStr_add _ _ (by rw [textOf_one]; omega)
        simp only [vmA, Nat.reduceEqDiff, reduceIte, Nat.reduceAdd, Nat.reduceBEq, reduceCtorEq, Nat.reduceLT, Int.reduceLE, Int.reduceLT, Int.reduceEq, Nat.reduceMul, Nat.reduceLeDiff, e6, e0, m0a, m0b, m0c, m0d, m0e, e1, e4, m256a, m256b, m256c, m256d, m256e, e5, m320a, m320b, m320c, m320d, m320e, rdP, rdA, vA, ↓cv22, convS, bytesL, intsOf, Option.map_some, hb]
        rw [wr (x := i - 1) (by omega)]
        exact ⟨(i - 1, s ++ textOf [IntKind.u8.wrap (IntKind.i64.wrap (97 + j2))], q + 1), ⟨⟨by dsimp only; omega, by dsimp only; rw [ByteArray.size_append, textOf_one]; omega, by dsimp only; omega, by dsimp only; omega⟩, rfl, rfl, rfl⟩, by dsimp only; omega⟩
      · exact ⟨(⟨2, 0, s⟩, q), ⟨by dsimp only; omega, by dsimp only; omega, by dsimp only; omega⟩, rfl, rfl⟩
    · refine callR (f35 xs c (p + 1) 2 hl (by omega) (by omega)) ?_
      rintro _ _ ⟨j, rfl, hj0, hjn, rfl⟩
      simp only [vmA, Nat.reduceEqDiff, reduceIte, Nat.reduceAdd, Nat.reduceBEq, reduceCtorEq, Nat.reduceLT, Int.reduceLE, Int.reduceLT, Int.reduceEq, Nat.reduceMul, Nat.reduceLeDiff, rdP, rdA, vA]
      exact ⟨(⟨3, _, ⟨⟨[]⟩⟩⟩, p + 1 + 1), ⟨by show (0 : Nat) ≤ 3; omega, by dsimp only; omega, by dsimp only; omega⟩, rfl, rfl⟩
  rintro ⟨v, q⟩ σ ⟨hp, e0, m0a, m0b, m0c, m0d, m0e, e1, e4, m256a, m256b, m256c, m256d, m256e, e5, m320a, m320b, m320c, m320d, m320e⟩
  try dsimp only at e0 m0a m0b m0c m0d m0e e1 e4 m256a m256b m256c m256d m256e e5 m320a m320b m320c m320d m320e hp
  simp only [vmA, Nat.reduceEqDiff, reduceIte, Nat.reduceAdd, Nat.reduceBEq, reduceCtorEq, Nat.reduceLT, Int.reduceLE, Int.reduceLT, Int.reduceEq, Nat.reduceMul, Nat.reduceLeDiff, e0, m0a, m0b, m0c, m0d, m0e, e1, e4, m256a, m256b, m256c, m256d, m256e, e5, m320a, m320b, m320c, m320d, m320e, rdP, rdA, vA]
  refine callR (f92g xs c q n hl (by omega) (by omega) hn) ?_
  rintro _ _ ⟨b, q2, rfl, hq0, hq1, rfl⟩
  simp only [vmA, Nat.reduceEqDiff, reduceIte, Nat.reduceAdd, Nat.reduceBEq, reduceCtorEq, Nat.reduceLT, Int.reduceLE, Int.reduceLT, Int.reduceEq, Nat.reduceMul, Nat.reduceLeDiff, e0, m0a, m0b, m0c, m0d, m0e, e1, e4, m256a, m256b, m256c, m256d, m256e, e5, m320a, m320b, m320c, m320d, m320e, rdP, rdA, vA]
  cases b
  · simp only [vmA, Nat.reduceEqDiff, reduceIte, Nat.reduceAdd, Nat.reduceBEq, reduceCtorEq, Nat.reduceLT, Int.reduceLE, Int.reduceLT, Int.reduceEq, Nat.reduceMul, Nat.reduceLeDiff, e0, m0a, m0b, m0c, m0d, m0e, e1, e4, m256a, m256b, m256c, m256d, m256e, e5, m320a, m320b, m320c, m320d, m320e, rdP, rdA, vA]
    (refine hQ _ ?_; simp only [vmA, Nat.reduceEqDiff, reduceIte, Nat.reduceAdd, Nat.reduceBEq, reduceCtorEq, Nat.reduceLT, Int.reduceLE, Int.reduceLT, Int.reduceEq, Nat.reduceMul, Nat.reduceLeDiff, Try.f93, retG, resL, St.closeVs, St.closeV, leftV, ghostW, e0, m0a, m0b, m0c, m0d, m0e, e1, e4, m256a, m256b, m256c, m256d, m256e, e5, m320a, m320b, m320c, m320d, m320e, rdP, rdA, vA])
    exact ⟨v, q2, by simp [vA], by omega, by omega, by omega, rfl⟩
  · simp only [vmA, Nat.reduceEqDiff, reduceIte, Nat.reduceAdd, Nat.reduceBEq, reduceCtorEq, Nat.reduceLT, Int.reduceLE, Int.reduceLT, Int.reduceEq, Nat.reduceMul, Nat.reduceLeDiff, e0, m0a, m0b, m0c, m0d, m0e, e1, e4, m256a, m256b, m256c, m256d, m256e, e5, m320a, m320b, m320c, m320d, m320e, rdP, rdA, vA]
    refine callR (f35 xs c q2 4 hl (by omega) (by omega)) ?_
    rintro _ _ ⟨j, rfl, hj0, hjn, rfl⟩
    simp only [vmA, Nat.reduceEqDiff, reduceIte, Nat.reduceAdd, Nat.reduceBEq, reduceCtorEq, Nat.reduceLT, Int.reduceLE, Int.reduceLT, Int.reduceEq, Nat.reduceMul, Nat.reduceLeDiff, e0, m0a, m0b, m0c, m0d, m0e, e1, e4, m256a, m256b, m256c, m256d, m256e, e5, m320a, m320b, m320c, m320d, m320e, rdP, rdA, vA]
    refine ⟨fun h => ?_, fun _ => ⟨fun h => ?_, fun _ => ⟨fun h => ?_, fun _ => ?_⟩⟩⟩
    · (refine hQ _ ?_; simp only [vmA, Nat.reduceEqDiff, reduceIte, Nat.reduceAdd, Nat.reduceBEq, reduceCtorEq, Nat.reduceLT, Int.reduceLE, Int.reduceLT, Int.reduceEq, Nat.reduceMul, Nat.reduceLeDiff, Try.f93, retG, resL, St.closeVs, St.closeV, leftV, ghostW, e0, m0a, m0b, m0c, m0d, m0e, e1, e4, m256a, m256b, m256c, m256d, m256e, e5, m320a, m320b, m320c, m320d, m320e, rdP, rdA, vA])
      exact ⟨⟨v.k, 10000, v.s⟩, q2 + 1, by simp [vA], by dsimp only; omega, by omega, by omega, rfl⟩
    · rw [binStr_add _ _ (by show v.s.size + 7 ≤ _; omega)]
      simp only [vmA, Nat.reduceEqDiff, reduceIte, Nat.reduceAdd, Nat.reduceBEq, reduceCtorEq, Nat.reduceLT, Int.reduceLE, Int.reduceLT, Int.reduceEq, Nat.reduceMul, Nat.reduceLeDiff, e0, m0a, m0b, m0c, m0d, m0e, e1, e4, m256a, m256b, m256c, m256d, m256e, e5, m320a, m320b, m320c, m320d, m320e, rdP, rdA, vA]
      (refine hQ _ ?_; simp only [vmA, Nat.reduceEqDiff, reduceIte, Nat.reduceAdd, Nat.reduceBEq, reduceCtorEq, Nat.reduceLT, Int.reduceLE, Int.reduceLT, Int.reduceEq, Nat.reduceMul, Nat.reduceLeDiff, Try.f93, retG, resL, St.closeVs, St.closeV, leftV, ghostW, e0, m0a, m0b, m0c, m0d, m0e, e1, e4, m256a, m256b, m256c, m256d, m256e, e5, m320a, m320b, m320c, m320d, m320e, rdP, rdA, vA])
      exact ⟨⟨v.k, v.n, v.s ++ ⟨⟨[97, 98, 99, 100, 101, 102, 103]⟩⟩⟩, q2 + 1, by simp [vA], by dsimp only; rw [ByteArray.size_append]; show v.s.size + 7 ≤ _; omega, by omega, by omega, rfl⟩
    · refine callR (f35 xs c (q2 + 1) 7 hl (by omega) (by omega)) ?_
      rintro _ _ ⟨j3, rfl, hj30, hj3n, rfl⟩
      simp only [vmA, Nat.reduceEqDiff, reduceIte, Nat.reduceAdd, Nat.reduceBEq, reduceCtorEq, Nat.reduceLT, Int.reduceLE, Int.reduceLT, Int.reduceEq, Nat.reduceMul, Nat.reduceLeDiff, e0, m0a, m0b, m0c, m0d, m0e, e1, e4, m256a, m256b, m256c, m256d, m256e, e5, m320a, m320b, m320c, m320d, m320e, rdP, rdA, vA]
      (refine hQ _ ?_; simp only [vmA, Nat.reduceEqDiff, reduceIte, Nat.reduceAdd, Nat.reduceBEq, reduceCtorEq, Nat.reduceLT, Int.reduceLE, Int.reduceLT, Int.reduceEq, Nat.reduceMul, Nat.reduceLeDiff, Try.f93, retG, resL, St.closeVs, St.closeV, leftV, ghostW, e0, m0a, m0b, m0c, m0d, m0e, e1, e4, m256a, m256b, m256c, m256d, m256e, e5, m320a, m320b, m320c, m320d, m320e, rdP, rdA, vA])
      exact ⟨⟨_, v.n, v.s⟩, q2 + 1 + 1, rfl, by dsimp only; omega, by omega, by omega, rfl⟩
    · rw [binStr_add _ _ (by show v.s.size + 1 ≤ _; omega)]
      simp only [vmA, Nat.reduceEqDiff, reduceIte, Nat.reduceAdd, Nat.reduceBEq, reduceCtorEq, Nat.reduceLT, Int.reduceLE, Int.reduceLT, Int.reduceEq, Nat.reduceMul, Nat.reduceLeDiff, e0, m0a, m0b, m0c, m0d, m0e, e1, e4, m256a, m256b, m256c, m256d, m256e, e5, m320a, m320b, m320c, m320d, m320e, rdP, rdA, vA]
      (refine hQ _ ?_; simp only [vmA, Nat.reduceEqDiff, reduceIte, Nat.reduceAdd, Nat.reduceBEq, reduceCtorEq, Nat.reduceLT, Int.reduceLE, Int.reduceLT, Int.reduceEq, Nat.reduceMul, Nat.reduceLeDiff, Try.f93, retG, resL, St.closeVs, St.closeV, leftV, ghostW, e0, m0a, m0b, m0c, m0d, m0e, e1, e4, m256a, m256b, m256c, m256d, m256e, e5, m320a, m320b, m320c, m320d, m320e, rdP, rdA, vA])
      exact ⟨⟨v.k, v.n, v.s ++ ⟨⟨[65]⟩⟩⟩, q2 + 1, by simp [vA], by dsimp only; rw [ByteArray.size_append]; show v.s.size + 1 ≤ _; omega, by omega, by omega, rfl⟩
