/- WALK of functions of the seat, or plain laws for it: each theorem f<k> says what function k returns, for every world and all arguments that stand for the values named. Conditions: none but those ahead of each theorem. -/
import Derived.Test.YtfimolakepbdbaaYA3
import Derived.Test.YtfimolakepbdbaaYBun
open Go Go.Vm Go.Proofs
set_option maxRecDepth 100000
set_option linter.unusedSimpArgs false
set_option linter.unusedVariables false
theorem tup2 {k k' : IntKind} {a b c d : Int} (h : a = b) (h' : c = d) : AV.tup [.int k a, .int k' c] = AV.tup [.int k b, .int k' d] := by rw [h, h']
theorem f89 (m : Nat) (hm : m ≤ 50) : Fx 89 [.int .u64 1, .int .u64 m] (.tup [.int .u64 0, .int .u64 m]) := by
  refine fn_of false Try.func89 (by kernel_rfl) rfl (by kernel_rfl) (by kernel_rfl) (Nat.le_of_ble_eq_true rfl) rfl fun Q hQ => ?_
  simp only [vmA, Nat.reduceEqDiff, reduceIte, Nat.reduceAdd, Nat.reduceBEq, reduceCtorEq, Nat.reduceLT, Int.reduceLE, Int.reduceLT, Int.reduceEq, Nat.reduceMul, Nat.reduceLeDiff]
  (refine hQ _ ?_; simp only [vmA, Nat.reduceEqDiff, reduceIte, Nat.reduceAdd, Nat.reduceBEq, reduceCtorEq, Nat.reduceLT, Int.reduceLE, Int.reduceLT, Int.reduceEq, Nat.reduceMul, Nat.reduceLeDiff, Try.f89, retG, resL, St.closeVs, St.closeV])
  clear hQ
  obtain ⟨k, rfl⟩ : ∃ k : Fin 51, k.val = m := ⟨⟨m, by omega⟩, rfl⟩
  clear hm
  refine tup2 ?_ ?_
  · revert k; decide +kernel
  · revert k; decide +kernel
theorem f76 (m : Nat) (hm : m ≤ 50) : Fx 76 [.int .u64 1, .int .u64 m] (.tup [.int .u64 0, .int .u64 m]) := by
  refine fn_of false Try.func76 (by kernel_rfl) rfl (by kernel_rfl) (by kernel_rfl) (Nat.le_of_ble_eq_true rfl) rfl fun Q hQ => ?_
  simp only [vmA, Nat.reduceEqDiff, reduceIte, Nat.reduceAdd, Nat.reduceBEq, reduceCtorEq, Nat.reduceLT, Int.reduceLE, Int.reduceLT, Int.reduceEq, Nat.reduceMul, Nat.reduceLeDiff]
  refine callD (f89 m hm) ?_
  simp only [vmA, Nat.reduceEqDiff, reduceIte, Nat.reduceAdd, Nat.reduceBEq, reduceCtorEq, Nat.reduceLT, Int.reduceLE, Int.reduceLT, Int.reduceEq, Nat.reduceMul, Nat.reduceLeDiff]
  (refine hQ _ ?_; simp only [vmA, Nat.reduceEqDiff, reduceIte, Nat.reduceAdd, Nat.reduceBEq, reduceCtorEq, Nat.reduceLT, Int.reduceLE, Int.reduceLT, Int.reduceEq, Nat.reduceMul, Nat.reduceLeDiff, Try.f76, retG, resL, St.closeVs, St.closeV])
theorem f52 (x : AV) (c : Bool) (m : Nat) (hm1 : 1 ≤ m) (hm : m ≤ 50) (a b : Int) (hx : x = .agg [.int .i64 a, .int .i64 b]) : Fx 52 [.fro none c [x], .int .i64 m] (.own 2 (List.replicate m x)) := by
  subst hx
  refine fn_ofX ⟨false, [], []⟩ Try.func52 (by kernel_rfl) rfl (by kernel_rfl) (by kernel_rfl) (Nat.le_of_ble_eq_true rfl) rfl fun Q hQ => ?_
  simp only [tr_seq, tr_block, tr_loop, tr_cond, tr_skip, tr_exit, tr_ret, tr_reg]
  rw [tr_cut 7 (by kernel_rfl)]
  have h0 : ((m : Int) < 0) = False := eq_false (by omega)
  have w1 : IntKind.u64.wrap ((1 : Nat) : Int) = 1 := by decide
  have w2 : IntKind.u64.wrap (m : Int) = m := by
    obtain ⟨k, rfl⟩ : ∃ k : Fin 51, k.val = m := ⟨⟨m, by omega⟩, rfl⟩
    clear h0 hm1 hm hQ
    revert k; decide +kernel
  have w3 : IntKind.i64.wrap (m : Int) = m := wr (by omega)
  have h1 : ((0 : Int) < 0) = False := eq_false (by omega)
  have h2 : ((9223372036854775807 : Int) < m) = False := eq_false (by omega)
  simp only [vmA, Nat.reduceEqDiff, reduceIte, Nat.reduceAdd, Nat.reduceBEq, reduceCtorEq, Nat.reduceLT, Int.reduceLE, Int.reduceLT, Int.reduceEq, Nat.reduceMul, Nat.reduceLeDiff, h0, w1, w2, w3, h1, h2]
  refine callD (f76 m hm) ?_
  simp only [vmA, Nat.reduceEqDiff, reduceIte, Nat.reduceAdd, Nat.reduceBEq, reduceCtorEq, Nat.reduceLT, Int.reduceLE, Int.reduceLT, Int.reduceEq, Nat.reduceMul, Nat.reduceLeDiff, h0, w1, w2, w3, h1, h2]
  have hmin : min 1 m = 1 := by omega
  rw [hmin]
  refine ⟨⟨by omega, by omega⟩, by simp, WT_loopR (fun (p : Nat × List AV × Nat) σ => (1 ≤ p.1 ∧ p.1 ≤ m ∧ p.2.1.length = m - p.1) ∧ σ.sl 7 = .hd 448 p.2.2 0 m false ∧ σ.sl 8 = .int .i64 p.1 ∧ (σ.en 448).live = true ∧ (σ.en 448).gen = p.2.2 ∧ (σ.en 448).frz = false ∧ (σ.en 448).sz = 2 ∧ (σ.en 448).elems = List.replicate p.1 (.agg [.int .i64 a, .int .i64 b]) ++ p.2.1) (fun p => m - p.1) 7 ?_ ?_⟩
  · have hR : (List.drop 1 (List.replicate m (AV.agg [.int .i64 0, .int .i64 0]))).length = m - 1 := by simp
    have hl : ([AV.agg [.int .i64 a, .int .i64 b]] ++ List.drop 1 (List.replicate m (AV.agg [.int .i64 0, .int .i64 0]))).length = m := by simp; omega
    generalize List.drop 1 (List.replicate m (AV.agg [.int .i64 0, .int .i64 0])) = R at hR hl ⊢
    have ht : List.take 1 [AV.agg [.int .i64 a, .int .i64 b]] = [AV.agg [.int .i64 a, .int .i64 b]] := rfl
    rw [ht]
    have hl2 : m ≤ ([AV.agg [.int .i64 a, .int .i64 b]] ++ R).length := by omega
    generalize hE : [AV.agg [.int .i64 a, .int .i64 b]] ++ R = els at hl hl2 ⊢
    have ht2 : els.take m = els := List.take_of_length_le (by omega)
    simp only [vmA, Nat.reduceEqDiff, reduceIte, Nat.reduceAdd, Nat.reduceBEq, reduceCtorEq, Nat.reduceLT, Int.reduceLE, Int.reduceLT, Int.reduceEq, Nat.reduceMul, Nat.reduceLeDiff, reown, ht2, hl]
    exact ⟨(1, R, 1), ⟨Nat.le_refl _, hm1, hR⟩, rfl, rfl, rfl, hE.symm⟩
  rintro ⟨k, R, γ⟩ σ ⟨⟨hk1, hk, hR⟩, e7, e8, l1, l2, l3, l4, l5⟩
  dsimp only at hk1 hk hR e7 e8 l2 l5
  obtain ⟨els, hels⟩ : ∃ els, List.replicate k (AV.agg [.int .i64 a, .int .i64 b]) ++ R = els := ⟨_, rfl⟩
  have hel : els.length = m := by rw [← hels]; simp; omega
  rw [hels] at l5
  by_cases hlt : k < m
  · have g0 : ((k : Int) < m) = True := eq_true (by omega)
    have g1 : ((k : Int) ≤ m) = True := eq_true (by omega)
    have g2 : (k ≤ m) = True := eq_true (by omega)
    have g3 : (k + (m - k) ≤ m) = True := eq_true (by omega)
    have g4 : List.take k els = List.replicate k (.agg [.int .i64 a, .int .i64 b]) := by rw [← hels]; exact List.take_left' (by simp)
    have g5 : (List.replicate k (AV.agg [.int .i64 a, .int .i64 b])).all noOwnE = true := by rw [List.all_eq_true]; intro z hz; obtain rfl := List.eq_of_mem_replicate hz; rfl
    have g6 : (∀ z ∈ List.replicate k (AV.agg [.int .i64 a, .int .i64 b]), (leaves z).length = 2) = True := eq_true (fun z hz => by obtain rfl := List.eq_of_mem_replicate hz; rfl)
    simp only [vmA, Nat.reduceEqDiff, reduceIte, Nat.reduceAdd, Nat.reduceBEq, reduceCtorEq, Nat.reduceLT, Int.reduceLE, Int.reduceLT, Int.reduceEq, Nat.reduceMul, Nat.reduceLeDiff, e7, e8, l1, l2, l3, l4, l5, hel, g0, g1, g2, g3, g4, g5, g6, Int.toNat_natCast, Int.toNat_zero, Nat.sub_zero, List.length_replicate, reown]
    obtain ⟨d, hd⟩ : ∃ d, min k (m - k) = d := ⟨_, rfl⟩
    have hnew : List.replicate k (AV.agg [.int .i64 a, .int .i64 b]) ++ List.take d (List.replicate k (AV.agg [.int .i64 a, .int .i64 b])) ++ List.drop (k + d) els = List.replicate (k + d) (AV.agg [.int .i64 a, .int .i64 b]) ++ R.drop d := by
      rw [← hels, List.take_replicate, List.drop_append, List.length_replicate, List.drop_of_length_le (by simp), List.nil_append, ← List.replicate_append_replicate, show min d k = d by omega, show k + d - k = d by omega]
    have hnl : (List.replicate (k + d) (AV.agg [.int .i64 a, .int .i64 b]) ++ R.drop d).length = m := by simp; omega
    rw [hd, hnew, List.take_of_length_le (by omega), hnl, wr (by omega)]
    exact ⟨by omega, (k + d, R.drop d, γ + 1), ⟨⟨by dsimp only; omega, by dsimp only; omega, by dsimp only; rw [List.length_drop]; omega⟩, rfl, leafJ (by dsimp only; omega), rfl, rfl⟩, by dsimp only; omega⟩
  · have g0 : ((k : Int) < m) = False := eq_false (by omega)
    obtain rfl : k = m := by omega
    obtain rfl := List.eq_nil_of_length_eq_zero (by rw [hR]; omega)
    simp only [vmA, Nat.reduceEqDiff, reduceIte, Nat.reduceAdd, Nat.reduceBEq, reduceCtorEq, Nat.reduceLT, Int.reduceLE, Int.reduceLT, Int.reduceEq, Nat.reduceMul, Nat.reduceLeDiff, e7, e8, l1, l2, l3, l4, l5, hel, g0]
    (refine hQ _ ?_; simp only [vmA, Nat.reduceEqDiff, reduceIte, Nat.reduceAdd, Nat.reduceBEq, reduceCtorEq, Nat.reduceLT, Int.reduceLE, Int.reduceLT, Int.reduceEq, Nat.reduceMul, Nat.reduceLeDiff, Try.f52, retG, resL, St.closeVs, St.closeV, e7, e8, l1, l2, l3, l4, l5, hel])
    rw [List.take_of_length_le (by omega), ← hels, List.append_nil]
