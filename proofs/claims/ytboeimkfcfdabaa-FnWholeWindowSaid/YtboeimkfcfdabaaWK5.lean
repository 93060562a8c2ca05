/- WALK of functions of the seat, or plain laws for it: each theorem f<k> says what function k returns, for every world and all arguments that stand for the values named. Conditions: none but those ahead of each theorem. -/
import Derived.Test.YtboeimkfcfdabaaWK1
open Go Go.Vm Go.Proofs
set_option maxRecDepth 100000
set_option maxHeartbeats 8000000
set_option linter.unusedSimpArgs false
set_option linter.unusedVariables false
def knOf (v : Val) : Kn := if ¬ valP v ∨ v.k = 0 then noK else ⟨1, if v.k = 1 then v.n else 0, v, v⟩
theorem f60 (v : Val) (h : okV v) : Fx 60 [vA v] (kA (knOf v)) := by
  refine fn_of ⟨true, [], []⟩ Try.func60 (by kernel_rfl) rfl (by kernel_rfl) (by kernel_rfl) (Nat.le_of_ble_eq_true rfl) rfl fun Q hQ => ?_
  simp only [vmA, Nat.reduceEqDiff, reduceIte, Nat.reduceAdd, Nat.reduceBEq, reduceCtorEq, Nat.reduceLT, Int.reduceLE, Int.reduceLT, Int.reduceEq, Nat.reduceMul, Nat.reduceLeDiff, vA, Option.bind_none]
  refine callD (f73 v h) ?_
  simp only [vmA, Nat.reduceEqDiff, reduceIte, Nat.reduceAdd, Nat.reduceBEq, reduceCtorEq, Nat.reduceLT, Int.reduceLE, Int.reduceLT, Int.reduceEq, Nat.reduceMul, Nat.reduceLeDiff, vA, Option.bind_none]
  refine ⟨fun g1 => ?_, fun g1 => ⟨fun g2 => ?_, fun g2 => ⟨fun g3 => ?_, fun g3 => ?_⟩⟩⟩
  · (refine hQ _ ?_; simp only [vmA, Nat.reduceEqDiff, reduceIte, Nat.reduceAdd, Nat.reduceBEq, reduceCtorEq, Nat.reduceLT, Int.reduceLE, Int.reduceLT, Int.reduceEq, Nat.reduceMul, Nat.reduceLeDiff, Try.f60, retG, resL, St.closeVs, St.closeV, vA, Option.bind_none])
    unfold knOf
    rw [if_pos (.inl g1)]
    rfl
  · (refine hQ _ ?_; simp only [vmA, Nat.reduceEqDiff, reduceIte, Nat.reduceAdd, Nat.reduceBEq, reduceCtorEq, Nat.reduceLT, Int.reduceLE, Int.reduceLT, Int.reduceEq, Nat.reduceMul, Nat.reduceLeDiff, Try.f60, retG, resL, St.closeVs, St.closeV, vA, Option.bind_none])
    unfold knOf
    rw [if_pos (.inr g2)]
    rfl
  · (refine hQ _ ?_; simp only [vmA, Nat.reduceEqDiff, reduceIte, Nat.reduceAdd, Nat.reduceBEq, reduceCtorEq, Nat.reduceLT, Int.reduceLE, Int.reduceLT, Int.reduceEq, Nat.reduceMul, Nat.reduceLeDiff, Try.f60, retG, resL, St.closeVs, St.closeV, vA, Option.bind_none])
    unfold knOf
    rw [if_neg (fun h => h.elim (fun h => h g1) g2), if_pos g3]
    rfl
  · (refine hQ _ ?_; simp only [vmA, Nat.reduceEqDiff, reduceIte, Nat.reduceAdd, Nat.reduceBEq, reduceCtorEq, Nat.reduceLT, Int.reduceLE, Int.reduceLT, Int.reduceEq, Nat.reduceMul, Nat.reduceLeDiff, Try.f60, retG, resL, St.closeVs, St.closeV, vA, Option.bind_none])
    unfold knOf
    rw [if_neg (fun h => h.elim (fun h => h g1) g2), if_neg g3]
    rfl
theorem f72 (v : Val) (h : okV v) : Fx 72 [vA v] (kA (knOf v)) := by
  refine fn_of ⟨true, [], []⟩ Try.func72 (by kernel_rfl) rfl (by kernel_rfl) (by kernel_rfl) (Nat.le_of_ble_eq_true rfl) rfl fun Q hQ => ?_
  simp only [vmA, Nat.reduceEqDiff, reduceIte, Nat.reduceAdd, Nat.reduceBEq, reduceCtorEq, Nat.reduceLT, Int.reduceLE, Int.reduceLT, Int.reduceEq, Nat.reduceMul, Nat.reduceLeDiff, vA, Option.bind_none]
  refine callD (f46 v h) ?_
  simp only [vmA, Nat.reduceEqDiff, reduceIte, Nat.reduceAdd, Nat.reduceBEq, reduceCtorEq, Nat.reduceLT, Int.reduceLE, Int.reduceLT, Int.reduceEq, Nat.reduceMul, Nat.reduceLeDiff, vA, Option.bind_none]
  refine ⟨fun g1 => ?_, fun g1 => ⟨fun g2 => ?_, fun g2 => ⟨fun g3 => ?_, fun g3 => ?_⟩⟩⟩
  · (refine hQ _ ?_; simp only [vmA, Nat.reduceEqDiff, reduceIte, Nat.reduceAdd, Nat.reduceBEq, reduceCtorEq, Nat.reduceLT, Int.reduceLE, Int.reduceLT, Int.reduceEq, Nat.reduceMul, Nat.reduceLeDiff, Try.f72, retG, resL, St.closeVs, St.closeV, vA, Option.bind_none])
    unfold knOf
    rw [if_pos (.inl g1)]
    rfl
  · (refine hQ _ ?_; simp only [vmA, Nat.reduceEqDiff, reduceIte, Nat.reduceAdd, Nat.reduceBEq, reduceCtorEq, Nat.reduceLT, Int.reduceLE, Int.reduceLT, Int.reduceEq, Nat.reduceMul, Nat.reduceLeDiff, Try.f72, retG, resL, St.closeVs, St.closeV, vA, Option.bind_none])
    unfold knOf
    rw [if_pos (.inr g2)]
    rfl
  · (refine hQ _ ?_; simp only [vmA, Nat.reduceEqDiff, reduceIte, Nat.reduceAdd, Nat.reduceBEq, reduceCtorEq, Nat.reduceLT, Int.reduceLE, Int.reduceLT, Int.reduceEq, Nat.reduceMul, Nat.reduceLeDiff, Try.f72, retG, resL, St.closeVs, St.closeV, vA, Option.bind_none])
    unfold knOf
    rw [if_neg (fun h => h.elim (fun h => h g1) g2), if_pos g3]
    rfl
  · (refine hQ _ ?_; simp only [vmA, Nat.reduceEqDiff, reduceIte, Nat.reduceAdd, Nat.reduceBEq, reduceCtorEq, Nat.reduceLT, Int.reduceLE, Int.reduceLT, Int.reduceEq, Nat.reduceMul, Nat.reduceLeDiff, Try.f72, retG, resL, St.closeVs, St.closeV, vA, Option.bind_none])
    unfold knOf
    rw [if_neg (fun h => h.elim (fun h => h g1) g2), if_neg g3]
    rfl
def minN (xs : List Val) : Nat → Val
  | 0 => xs[0]!
  | n + 1 => if vCmp xs[n + 1]! (minN xs n) < 0 then xs[n + 1]! else minN xs n
def maxN (xs : List Val) : Nat → Val
  | 0 => xs[0]!
  | n + 1 => if 0 < vCmp xs[n + 1]! (maxN xs n) then xs[n + 1]! else maxN xs n
theorem f85 (xs : List Val) (c : Bool) (h1 : 1 ≤ xs.length) (h2 : xs.length ≤ 1048576) : Fx 85 [.fro none c (xs.map vA), .clo 16 []] (vA (minN xs (xs.length - 1))) := by
  refine fn_ofX ⟨true, [], [(7, [], [0, 1, 2, 3, 4, 5, 6, 7])]⟩ Try.func85 (by kernel_rfl) rfl (by kernel_rfl) (by kernel_rfl) (Nat.le_of_ble_eq_true rfl) rfl fun Q hQ => ?_
  simp only [tr_seq, tr_block, tr_loop, tr_cond, tr_skip, tr_exit, tr_ret, tr_reg]
  rw [tr_any 7 [(0, [], 0), (0, [], 1), (0, [], 2), (0, [], 3), (0, [], 4), (0, [], 5), (1, [0, 1, 2, 3, 4, 5], 6), (0, [], 7), (2, [7], 0)] (by kernel_rfl)]
  simp only [codeA_nil, codeA_look, codeA_hard, codeA_fin, ordC_leaf, ordC_one, ordC_both, pickL, List.getElem?_toArray, List.getElem?_cons_zero, List.getElem?_cons_succ]
  simp only [vmA, Nat.reduceEqDiff, reduceIte, Nat.reduceAdd, Nat.reduceBEq, reduceCtorEq, Nat.reduceLT, Int.reduceLE, Int.reduceLT, Int.reduceEq, Nat.reduceMul, Nat.reduceLeDiff, List.length_map, Option.bind_none]
  refine ⟨fun h => absurd h (by omega), fun _ => ⟨by omega, ?_⟩⟩
  simp only [vmA, Nat.reduceEqDiff, reduceIte, Nat.reduceAdd, Nat.reduceBEq, reduceCtorEq, Nat.reduceLT, Int.reduceLE, Int.reduceLT, Int.reduceEq, Nat.reduceMul, Nat.reduceLeDiff, vA, List.length_map, Option.bind_none, Int.toNat_zero]
  refine ⟨by omega, ?_⟩
  refine WT_loop (fun (i : Nat) σ => (i + 1 ≤ xs.length) ∧ σ.sl 6 = .int .i64 ((i : Int) + 1) ∧ σ.sl 0 = .fro none c (xs.map vA) ∧ σ.sl 1 = .clo 16 [] ∧ σ.sl 4 = .ptr 256 1 0 0 ∧ (σ.en 256).live = true ∧ (σ.en 256).gen = 1 ∧ (σ.en 256).frz = false ∧ (σ.en 256).sz = 3 ∧ (σ.en 256).elems = [.agg [.int .i64 0, .int .i64 0, .str ⟨⟨[]⟩⟩]] ∧ σ.sl 5 = .ptr 320 1 0 0 ∧ (σ.en 320).live = true ∧ (σ.en 320).gen = 1 ∧ (σ.en 320).frz = false ∧ (σ.en 320).sz = 3 ∧ (σ.en 320).elems = [vA (minN xs i)]) (fun i => xs.length - i) (0) ⟨h1, by simp [put_sl, put_en, put_none, init_sl, fresh_sl, fresh_en, ent_sl, ent_en, init_en, vA, minN], by simp [put_sl, put_en, put_none, init_sl, fresh_sl, fresh_en, ent_sl, ent_en, init_en, vA, minN], by simp [put_sl, put_en, put_none, init_sl, fresh_sl, fresh_en, ent_sl, ent_en, init_en, vA, minN], by simp [put_sl, put_en, put_none, init_sl, fresh_sl, fresh_en, ent_sl, ent_en, init_en, vA, minN], by simp [put_sl, put_en, put_none, init_sl, fresh_sl, fresh_en, ent_sl, ent_en, init_en, vA, minN], by simp [put_sl, put_en, put_none, init_sl, fresh_sl, fresh_en, ent_sl, ent_en, init_en, vA, minN], by simp [put_sl, put_en, put_none, init_sl, fresh_sl, fresh_en, ent_sl, ent_en, init_en, vA, minN], by simp [put_sl, put_en, put_none, init_sl, fresh_sl, fresh_en, ent_sl, ent_en, init_en, vA, minN], by simp [put_sl, put_en, put_none, init_sl, fresh_sl, fresh_en, ent_sl, ent_en, init_en, vA, minN], by simp [put_sl, put_en, put_none, init_sl, fresh_sl, fresh_en, ent_sl, ent_en, init_en, vA, minN], by simp [put_sl, put_en, put_none, init_sl, fresh_sl, fresh_en, ent_sl, ent_en, init_en, vA, minN], by simp [put_sl, put_en, put_none, init_sl, fresh_sl, fresh_en, ent_sl, ent_en, init_en, vA, minN], by simp [put_sl, put_en, put_none, init_sl, fresh_sl, fresh_en, ent_sl, ent_en, init_en, vA, minN], by simp [put_sl, put_en, put_none, init_sl, fresh_sl, fresh_en, ent_sl, ent_en, init_en, vA, minN], by simp [put_sl, put_en, put_none, init_sl, fresh_sl, fresh_en, ent_sl, ent_en, init_en, vA, minN]⟩ ?_
  rintro i σ ⟨hi, e6, e0, e1, e4, m256a, m256b, m256c, m256d, m256e, e5, m320a, m320b, m320c, m320d, m320e⟩
  have eN : ((i : Int) + 1).toNat = i + 1 := by omega
  simp only [vmA, Nat.reduceEqDiff, reduceIte, Nat.reduceAdd, Nat.reduceBEq, reduceCtorEq, Nat.reduceLT, Int.reduceLE, Int.reduceLT, Int.reduceEq, Nat.reduceMul, Nat.reduceLeDiff, e6, e0, e1, e4, m256a, m256b, m256c, m256d, m256e, e5, m320a, m320b, m320c, m320d, m320e, vA, List.length_map, Option.bind_none, eN]
  refine ⟨fun hlt => ?_, fun hge => ?_⟩
  · refine ⟨⟨by omega, by omega⟩, by omega, ⟨⟨by omega, by omega⟩, by omega⟩, callD (f16 xs[i + 1]! (minN xs i)) ?_⟩
    simp only [vmA, Nat.reduceEqDiff, reduceIte, Nat.reduceAdd, Nat.reduceBEq, reduceCtorEq, Nat.reduceLT, Int.reduceLE, Int.reduceLT, Int.reduceEq, Nat.reduceMul, Nat.reduceLeDiff, e6, e0, e1, e4, m256a, m256b, m256c, m256d, m256e, e5, m320a, m320b, m320c, m320d, m320e, vA, List.length_map, Option.bind_none, eN]
    refine ⟨fun h => ⟨⟨by omega, by omega⟩, by omega, ?_⟩, fun h => ?_⟩
    · rw [wr (by omega)]
      exact ⟨i + 1, ⟨by omega, by simp, by rw [show minN xs (i + 1) = xs[i + 1]! from if_pos h]⟩, by omega⟩
    · rw [wr (by omega)]
      exact ⟨i + 1, ⟨by omega, by simp, by rw [show minN xs (i + 1) = minN xs i from if_neg h]⟩, by omega⟩
  · (refine hQ _ ?_; simp only [vmA, Nat.reduceEqDiff, reduceIte, Nat.reduceAdd, Nat.reduceBEq, reduceCtorEq, Nat.reduceLT, Int.reduceLE, Int.reduceLT, Int.reduceEq, Nat.reduceMul, Nat.reduceLeDiff, Try.f85, retG, resL, St.closeVs, St.closeV, e6, e0, e1, e4, m256a, m256b, m256c, m256d, m256e, e5, m320a, m320b, m320c, m320d, m320e, vA, Option.bind_none])
    rw [show xs.length - 1 = i by omega]
theorem f86 (xs : List Val) (c : Bool) (h1 : 1 ≤ xs.length) (h2 : xs.length ≤ 1048676) : Fx 86 [.fro none c (xs.map vA), .clo 16 []] (vA (maxN xs (xs.length - 1))) := by
  refine fn_ofX ⟨true, [], [(7, [], [0, 1, 2, 3, 4, 5, 6, 7])]⟩ Try.func86 (by kernel_rfl) rfl (by kernel_rfl) (by kernel_rfl) (Nat.le_of_ble_eq_true rfl) rfl fun Q hQ => ?_
  simp only [tr_seq, tr_block, tr_loop, tr_cond, tr_skip, tr_exit, tr_ret, tr_reg]
  rw [tr_any 7 [(0, [], 0), (0, [], 1), (0, [], 2), (0, [], 3), (0, [], 4), (0, [], 5), (1, [0, 1, 2, 3, 4, 5], 6), (0, [], 7), (2, [7], 0)] (by kernel_rfl)]
  simp only [codeA_nil, codeA_look, codeA_hard, codeA_fin, ordC_leaf, ordC_one, ordC_both, pickL, List.getElem?_toArray, List.getElem?_cons_zero, List.getElem?_cons_succ]
  simp only [vmA, Nat.reduceEqDiff, reduceIte, Nat.reduceAdd, Nat.reduceBEq, reduceCtorEq, Nat.reduceLT, Int.reduceLE, Int.reduceLT, Int.reduceEq, Nat.reduceMul, Nat.reduceLeDiff, List.length_map, Option.bind_none]
  refine ⟨fun h => absurd h (by omega), fun _ => ⟨by omega, ?_⟩⟩
  simp only [vmA, Nat.reduceEqDiff, reduceIte, Nat.reduceAdd, Nat.reduceBEq, reduceCtorEq, Nat.reduceLT, Int.reduceLE, Int.reduceLT, Int.reduceEq, Nat.reduceMul, Nat.reduceLeDiff, vA, List.length_map, Option.bind_none, Int.toNat_zero]
  refine ⟨by omega, ?_⟩
  refine WT_loop (fun (i : Nat) σ => (i + 1 ≤ xs.length) ∧ σ.sl 6 = .int .i64 ((i : Int) + 1) ∧ σ.sl 0 = .fro none c (xs.map vA) ∧ σ.sl 1 = .clo 16 [] ∧ σ.sl 4 = .ptr 256 1 0 0 ∧ (σ.en 256).live = true ∧ (σ.en 256).gen = 1 ∧ (σ.en 256).frz = false ∧ (σ.en 256).sz = 3 ∧ (σ.en 256).elems = [.agg [.int .i64 0, .int .i64 0, .str ⟨⟨[]⟩⟩]] ∧ σ.sl 5 = .ptr 320 1 0 0 ∧ (σ.en 320).live = true ∧ (σ.en 320).gen = 1 ∧ (σ.en 320).frz = false ∧ (σ.en 320).sz = 3 ∧ (σ.en 320).elems = [vA (maxN xs i)]) (fun i => xs.length - i) (0) ⟨h1, by simp [put_sl, put_en, put_none, init_sl, fresh_sl, fresh_en, ent_sl, ent_en, init_en, vA, maxN], by simp [put_sl, put_en, put_none, init_sl, fresh_sl, fresh_en, ent_sl, ent_en, init_en, vA, maxN], by simp [put_sl, put_en, put_none, init_sl, fresh_sl, fresh_en, ent_sl, ent_en, init_en, vA, maxN], by simp [put_sl, put_en, put_none, init_sl, fresh_sl, fresh_en, ent_sl, ent_en, init_en, vA, maxN], by simp [put_sl, put_en, put_none, init_sl, fresh_sl, fresh_en, ent_sl, ent_en, init_en, vA, maxN], by simp [put_sl, put_en, put_none, init_sl, fresh_sl, fresh_en, ent_sl, ent_en, init_en, vA, maxN], by simp [put_sl, put_en, put_none, init_sl, fresh_sl, fresh_en, ent_sl, ent_en, init_en, vA, maxN], by simp [put_sl, put_en, put_none, init_sl, fresh_sl, fresh_en, ent_sl, ent_en, init_en, vA, maxN], by simp [put_sl, put_en, put_none, init_sl, fresh_sl, fresh_en, ent_sl, ent_en, init_en, vA, maxN], by simp [put_sl, put_en, put_none, init_sl, fresh_sl, fresh_en, ent_sl, ent_en, init_en, vA, maxN], by simp [put_sl, put_en, put_none, init_sl, fresh_sl, fresh_en, ent_sl, ent_en, init_en, vA, maxN], by simp [put_sl, put_en, put_none, init_sl, fresh_sl, fresh_en, ent_sl, ent_en, init_en, vA, maxN], by simp [put_sl, put_en, put_none, init_sl, fresh_sl, fresh_en, ent_sl, ent_en, init_en, vA, maxN], by simp [put_sl, put_en, put_none, init_sl, fresh_sl, fresh_en, ent_sl, ent_en, init_en, vA, maxN], by simp [put_sl, put_en, put_none, init_sl, fresh_sl, fresh_en, ent_sl, ent_en, init_en, vA, maxN]⟩ ?_
  rintro i σ ⟨hi, e6, e0, e1, e4, m256a, m256b, m256c, m256d, m256e, e5, m320a, m320b, m320c, m320d, m320e⟩
  have eN : ((i : Int) + 1).toNat = i + 1 := by omega
  simp only [vmA, Nat.reduceEqDiff, reduceIte, Nat.reduceAdd, Nat.reduceBEq, reduceCtorEq, Nat.reduceLT, Int.reduceLE, Int.reduceLT, Int.reduceEq, Nat.reduceMul, Nat.reduceLeDiff, e6, e0, e1, e4, m256a, m256b, m256c, m256d, m256e, e5, m320a, m320b, m320c, m320d, m320e, vA, List.length_map, Option.bind_none, eN]
  refine ⟨fun hlt => ?_, fun hge => ?_⟩
  · refine ⟨⟨by omega, by omega⟩, by omega, ⟨⟨by omega, by omega⟩, by omega⟩, callD (f16 xs[i + 1]! (maxN xs i)) ?_⟩
    simp only [vmA, Nat.reduceEqDiff, reduceIte, Nat.reduceAdd, Nat.reduceBEq, reduceCtorEq, Nat.reduceLT, Int.reduceLE, Int.reduceLT, Int.reduceEq, Nat.reduceMul, Nat.reduceLeDiff, e6, e0, e1, e4, m256a, m256b, m256c, m256d, m256e, e5, m320a, m320b, m320c, m320d, m320e, vA, List.length_map, Option.bind_none, eN]
    refine ⟨fun h => ⟨⟨by omega, by omega⟩, by omega, ?_⟩, fun h => ?_⟩
    · rw [wr (by omega)]
      exact ⟨i + 1, ⟨by omega, by simp, by rw [show maxN xs (i + 1) = xs[i + 1]! from if_pos h]⟩, by omega⟩
    · rw [wr (by omega)]
      exact ⟨i + 1, ⟨by omega, by simp, by rw [show maxN xs (i + 1) = maxN xs i from if_neg h]⟩, by omega⟩
  · (refine hQ _ ?_; simp only [vmA, Nat.reduceEqDiff, reduceIte, Nat.reduceAdd, Nat.reduceBEq, reduceCtorEq, Nat.reduceLT, Int.reduceLE, Int.reduceLT, Int.reduceEq, Nat.reduceMul, Nat.reduceLeDiff, Try.f86, retG, resL, St.closeVs, St.closeV, e6, e0, e1, e4, m256a, m256b, m256c, m256d, m256e, e5, m320a, m320b, m320c, m320d, m320e, vA, Option.bind_none])
    rw [show xs.length - 1 = i by omega]
def knBoth (a b : Kn) : Kn :=
  if ¬ knP a ∨ ¬ knP b then noK else if a.many = 0 then b else if b.many = 0 then a else if ¬ a.lo.k = b.lo.k ∨ 100 < a.many + b.many then noK
  else ⟨a.many + b.many, a.sum + b.sum, if vCmp b.lo a.lo < 0 then b.lo else a.lo, if 0 < vCmp b.hi a.hi then b.hi else a.hi⟩
