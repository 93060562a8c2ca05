/- WALK of functions of the seat, or plain laws for it: each theorem f<k> says what function k returns, for every world and all arguments that stand for the values named. Conditions: none but those ahead of each theorem. -/
import Derived.Test.YtboeimkfcfdabaaWK5
open Go Go.Vm Go.Proofs
set_option maxRecDepth 100000
set_option maxHeartbeats 8000000
set_option linter.unusedSimpArgs false
set_option linter.unusedVariables false
def okK (k : Kn) : Prop := okV k.lo ∧ okV k.hi
theorem two_min (a b : Val) : minN [a, b] ([a, b].length - 1) = if vCmp b a < 0 then b else a := rfl
theorem two_max (a b : Val) : maxN [a, b] ([a, b].length - 1) = if 0 < vCmp b a then b else a := rfl
theorem f59 (a b : Kn) (ha : okK a) (hb : okK b) : Fx 59 [kA a, kA b] (kA (knBoth a b)) := by
  refine fn_ofX ⟨true, [], [(9, [], [1000, 0, 1, 2, 3, 4, 5, 6, 7, 8, 9, 10, 11, 12, 13, 16, 17, 18, 19])]⟩ Try.func59 (by kernel_rfl) rfl (by kernel_rfl) (by kernel_rfl) (Nat.le_of_ble_eq_true rfl) rfl fun Q hQ => ?_
  simp only [tr_seq, tr_block, tr_loop, tr_cond, tr_skip, tr_exit, tr_ret, tr_reg]
  rw [tr_tree 9 [0, 1, 2, 3, 4, 5, 6, 7, 8, 9, 10, 11, 12, 13, 16, 17, 18, 19] (.both 14 (.both 15 (.both 20 (.both 21 (.both 22 (.both 23 .leaf .leaf) .leaf) .leaf) .leaf) (.both 20 (.both 15 (.both 21 (.both 22 (.both 23 .leaf .leaf) .leaf) .leaf) .leaf) .leaf)) (.both 20 (.both 14 (.both 15 (.both 21 (.both 22 (.both 23 .leaf .leaf) .leaf) .leaf) .leaf) .leaf) .leaf)) (by kernel_rfl)]
  simp only [codeA_nil, codeA_look, codeA_hard, codeA_fin, ordC_leaf, ordC_one, ordC_both, pickL, List.getElem?_toArray, List.getElem?_cons_zero, List.getElem?_cons_succ]
  simp only [vmA, Nat.reduceEqDiff, reduceIte, Nat.reduceAdd, Nat.reduceBEq, reduceCtorEq, Nat.reduceLT, Int.reduceLE, Int.reduceLT, Int.reduceEq, Nat.reduceMul, Nat.reduceLeDiff, kA, Option.bind_none]
  refine callD (f61 a ha.1 ha.2) ?_
  simp only [vmA, Nat.reduceEqDiff, reduceIte, Nat.reduceAdd, Nat.reduceBEq, reduceCtorEq, Nat.reduceLT, Int.reduceLE, Int.reduceLT, Int.reduceEq, Nat.reduceMul, Nat.reduceLeDiff, kA, Option.bind_none]
  refine ⟨fun g1 => ?_, fun g1 => callD (f61 b hb.1 hb.2) ?_⟩
  · (refine hQ _ ?_; simp only [vmA, Nat.reduceEqDiff, reduceIte, Nat.reduceAdd, Nat.reduceBEq, reduceCtorEq, Nat.reduceLT, Int.reduceLE, Int.reduceLT, Int.reduceEq, Nat.reduceMul, Nat.reduceLeDiff, Try.f59, retG, resL, St.closeVs, St.closeV, kA, Option.bind_none])
    unfold knBoth
    rw [if_pos (.inl g1)]
    rfl
  simp only [vmA, Nat.reduceEqDiff, reduceIte, Nat.reduceAdd, Nat.reduceBEq, reduceCtorEq, Nat.reduceLT, Int.reduceLE, Int.reduceLT, Int.reduceEq, Nat.reduceMul, Nat.reduceLeDiff, kA, Option.bind_none]
  refine ⟨fun g2 => ?_, fun g2 => ⟨fun g3 => ?_, fun g3 => ⟨fun g4 => ?_, fun g4 => ⟨fun g5 => ?_, fun g5 => ?_⟩⟩⟩⟩
  · (refine hQ _ ?_; simp only [vmA, Nat.reduceEqDiff, reduceIte, Nat.reduceAdd, Nat.reduceBEq, reduceCtorEq, Nat.reduceLT, Int.reduceLE, Int.reduceLT, Int.reduceEq, Nat.reduceMul, Nat.reduceLeDiff, Try.f59, retG, resL, St.closeVs, St.closeV, kA, Option.bind_none])
    unfold knBoth
    rw [if_pos (.inr g2)]
    rfl
  · (refine hQ _ ?_; simp only [vmA, Nat.reduceEqDiff, reduceIte, Nat.reduceAdd, Nat.reduceBEq, reduceCtorEq, Nat.reduceLT, Int.reduceLE, Int.reduceLT, Int.reduceEq, Nat.reduceMul, Nat.reduceLeDiff, Try.f59, retG, resL, St.closeVs, St.closeV, kA, Option.bind_none])
    unfold knBoth
    rw [if_neg (fun h => h.elim (fun h => h g1) fun h => h g2), if_pos g3]
  · (refine hQ _ ?_; simp only [vmA, Nat.reduceEqDiff, reduceIte, Nat.reduceAdd, Nat.reduceBEq, reduceCtorEq, Nat.reduceLT, Int.reduceLE, Int.reduceLT, Int.reduceEq, Nat.reduceMul, Nat.reduceLeDiff, Try.f59, retG, resL, St.closeVs, St.closeV, kA, Option.bind_none])
    unfold knBoth
    rw [if_neg (fun h => h.elim (fun h => h g1) fun h => h g2), if_neg g3, if_pos g4]
  · (refine hQ _ ?_; simp only [vmA, Nat.reduceEqDiff, reduceIte, Nat.reduceAdd, Nat.reduceBEq, reduceCtorEq, Nat.reduceLT, Int.reduceLE, Int.reduceLT, Int.reduceEq, Nat.reduceMul, Nat.reduceLeDiff, Try.f59, retG, resL, St.closeVs, St.closeV, kA, Option.bind_none])
    unfold knBoth
    rw [if_neg (fun h => h.elim (fun h => h g1) fun h => h g2), if_neg g3, if_neg g4, if_pos (.inl g5)]
    rfl
  have ba : (1 ≤ a.many ∧ a.many ≤ 100) ∧ (-(9999 * a.many) ≤ a.sum ∧ a.sum ≤ 9999 * a.many) := g1.elim (fun z => absurd z.1 g3) fun z => ⟨z.2.1, z.2.2.1⟩
  have bb : (1 ≤ b.many ∧ b.many ≤ 100) ∧ (-(9999 * b.many) ≤ b.sum ∧ b.sum ≤ 9999 * b.many) := g2.elim (fun z => absurd z.1 g4) fun z => ⟨z.2.1, z.2.2.1⟩
  rw [wr (x := a.many + b.many) (by omega)]
  refine ⟨fun g6 => ?_, fun g6 => ?_⟩
  · (refine hQ _ ?_; simp only [vmA, Nat.reduceEqDiff, reduceIte, Nat.reduceAdd, Nat.reduceBEq, reduceCtorEq, Nat.reduceLT, Int.reduceLE, Int.reduceLT, Int.reduceEq, Nat.reduceMul, Nat.reduceLeDiff, Try.f59, retG, resL, St.closeVs, St.closeV, kA, Option.bind_none])
    unfold knBoth
    rw [if_neg (fun h => h.elim (fun h => h g1) fun h => h g2), if_neg g3, if_neg g4, if_pos (.inr g6)]
    rfl
  simp only [vmA, Nat.reduceEqDiff, reduceIte, Nat.reduceAdd, Nat.reduceBEq, reduceCtorEq, Nat.reduceLT, Int.reduceLE, Int.reduceLT, Int.reduceEq, Nat.reduceMul, Nat.reduceLeDiff, kA, Option.bind_none, WT_both]
  repeat' first
    | refine And.intro ?_ ?_
    | (refine callD (f85 [a.lo, b.lo] true (by simp) (by simp)) ?_
       simp only [vmA, Nat.reduceEqDiff, reduceIte, Nat.reduceAdd, Nat.reduceBEq, reduceCtorEq, Nat.reduceLT, Int.reduceLE, Int.reduceLT, Int.reduceEq, Nat.reduceMul, Nat.reduceLeDiff, kA, vA, Option.bind_none, WT_both, two_min, two_max, behind_nf])
    | (refine callD (f86 [a.hi, b.hi] true (by simp) (by simp)) ?_
       simp only [vmA, Nat.reduceEqDiff, reduceIte, Nat.reduceAdd, Nat.reduceBEq, reduceCtorEq, Nat.reduceLT, Int.reduceLE, Int.reduceLT, Int.reduceEq, Nat.reduceMul, Nat.reduceLeDiff, kA, vA, Option.bind_none, WT_both, two_min, two_max, behind_nf])
  all_goals (
    (refine hQ _ ?_; simp only [vmA, Nat.reduceEqDiff, reduceIte, Nat.reduceAdd, Nat.reduceBEq, reduceCtorEq, Nat.reduceLT, Int.reduceLE, Int.reduceLT, Int.reduceEq, Nat.reduceMul, Nat.reduceLeDiff, Try.f59, retG, resL, St.closeVs, St.closeV, kA, vA, Option.bind_none, two_min, two_max])
    unfold knBoth
    rw [if_neg (fun h => h.elim (fun h => h g1) fun h => h g2), if_neg g3, if_neg g4, if_neg (fun h => h.elim (fun h => h g5) g6)]
    rw [wr (x := a.sum + b.sum) (by omega)]
    rfl)
