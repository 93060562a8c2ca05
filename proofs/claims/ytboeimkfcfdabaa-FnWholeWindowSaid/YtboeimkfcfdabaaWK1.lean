/- WALK of functions of the seat, or plain laws for it: each theorem f<k> says what function k returns, for every world and all arguments that stand for the values named. Conditions: none but those ahead of each theorem. -/
import Derived.Test.YtboeimkfcfdabaaWC1
import Derived.Test.YtboeimkfcfdabaaWK2
open Go Go.Vm Go.Proofs
set_option maxRecDepth 100000
set_option maxHeartbeats 8000000
set_option linter.unusedSimpArgs false
set_option linter.unusedVariables false
def zV : Val := ⟨0, 0, ⟨⟨[]⟩⟩⟩
/-- What is known of values. -/
structure Kn where
  many : Int
  sum : Int
  lo : Val
  hi : Val
def noK : Kn := ⟨0, 0, zV, zV⟩
instance : Inhabited Kn := ⟨noK⟩
def kA (k : Kn) : AV := .agg [.int .i64 k.many, .int .i64 k.sum, .int .i64 k.lo.k, .int .i64 k.lo.n, .str k.lo.s, .int .i64 k.hi.k, .int .i64 k.hi.n, .str k.hi.s]
def knZ (k : Kn) : Prop := k.many = 0 ∧ k.sum = 0 ∧ k.lo.k = 0 ∧ k.lo.n = 0 ∧ k.lo.s = ⟨⟨[]⟩⟩ ∧ k.hi.k = 0 ∧ k.hi.n = 0 ∧ k.hi.s = ⟨⟨[]⟩⟩
def knQ (k : Kn) : Prop := (1 ≤ k.many ∧ k.many ≤ 100) ∧ (-(9999 * k.many) ≤ k.sum ∧ k.sum ≤ 9999 * k.many) ∧ valP k.lo ∧ valP k.hi ∧ k.lo.k = k.hi.k ∧ ¬ k.lo.k = 0 ∧ vCmp k.lo k.hi ≤ 0 ∧ (k.lo.k = 1 ∨ k.sum = 0)
def knP (k : Kn) : Prop := (k.many = 0 ∧ knZ k) ∨ (¬ k.many = 0 ∧ knQ k)
instance (k : Kn) : Decidable (knP k) := by unfold knP knZ knQ; exact inferInstance
theorem f61 (k : Kn) (h1 : okV k.lo) (h2 : okV k.hi) : Fx 61 [kA k] (.bool (decide (knP k))) := by
  refine fn_of ⟨false, [], []⟩ Try.func61 (by kernel_rfl) rfl (by kernel_rfl) (by kernel_rfl) (Nat.le_of_ble_eq_true rfl) rfl fun Q hQ => ?_
  simp only [vmA, Nat.reduceEqDiff, reduceIte, Nat.reduceAdd, Nat.reduceBEq, reduceCtorEq, Nat.reduceLT, Int.reduceLE, Int.reduceLT, Int.reduceEq, Nat.reduceMul, Nat.reduceLeDiff, kA]
  refine ⟨fun h0 => ?_, fun h0 => callD (f52 _ _ _) ?_⟩
  · (refine hQ _ ?_; simp only [vmA, Nat.reduceEqDiff, reduceIte, Nat.reduceAdd, Nat.reduceBEq, reduceCtorEq, Nat.reduceLT, Int.reduceLE, Int.reduceLT, Int.reduceEq, Nat.reduceMul, Nat.reduceLeDiff, Try.f61, retG, resL, St.closeVs, St.closeV, kA])
    simp only [← Bool.decide_and]
    exact lB ⟨fun h => .inl ⟨h0, h⟩, fun z => z.elim (fun z => z.2) fun z => absurd h0 z.1⟩
  have nF : ¬ knQ k → AV.bool false = AV.bool (decide (knP k)) := fun h => lF fun z => z.elim (fun z => h0 z.1) fun z => h z.2
  simp only [vmA, Nat.reduceEqDiff, reduceIte, Nat.reduceAdd, Nat.reduceBEq, reduceCtorEq, Nat.reduceLT, Int.reduceLE, Int.reduceLT, Int.reduceEq, Nat.reduceMul, Nat.reduceLeDiff, kA]
  refine ⟨fun g1 => ?_, fun g1 => ?_⟩
  rotate_left
  · (refine hQ _ ?_; simp only [vmA, Nat.reduceEqDiff, reduceIte, Nat.reduceAdd, Nat.reduceBEq, reduceCtorEq, Nat.reduceLT, Int.reduceLE, Int.reduceLT, Int.reduceEq, Nat.reduceMul, Nat.reduceLeDiff, Try.f61, retG, resL, St.closeVs, St.closeV, kA])
    exact nF fun z => g1 z.1
  rw [wr (x := -9999 * k.many) (by omega), wr (x := 9999 * k.many) (by omega)]
  refine callD (f52 _ _ _) ?_
  simp only [vmA, Nat.reduceEqDiff, reduceIte, Nat.reduceAdd, Nat.reduceBEq, reduceCtorEq, Nat.reduceLT, Int.reduceLE, Int.reduceLT, Int.reduceEq, Nat.reduceMul, Nat.reduceLeDiff, kA]
  refine ⟨fun g2 => callD (f73 k.lo h1) ?_, fun g2 => ?_⟩
  rotate_left
  · (refine hQ _ ?_; simp only [vmA, Nat.reduceEqDiff, reduceIte, Nat.reduceAdd, Nat.reduceBEq, reduceCtorEq, Nat.reduceLT, Int.reduceLE, Int.reduceLT, Int.reduceEq, Nat.reduceMul, Nat.reduceLeDiff, Try.f61, retG, resL, St.closeVs, St.closeV, kA])
    exact nF fun z => g2 ⟨by have := z.2.1.1; omega, z.2.1.2⟩
  simp only [vmA, Nat.reduceEqDiff, reduceIte, Nat.reduceAdd, Nat.reduceBEq, reduceCtorEq, Nat.reduceLT, Int.reduceLE, Int.reduceLT, Int.reduceEq, Nat.reduceMul, Nat.reduceLeDiff, kA]
  refine ⟨fun g3 => callD (f73 k.hi h2) ?_, fun g3 => ?_⟩
  rotate_left
  · (refine hQ _ ?_; simp only [vmA, Nat.reduceEqDiff, reduceIte, Nat.reduceAdd, Nat.reduceBEq, reduceCtorEq, Nat.reduceLT, Int.reduceLE, Int.reduceLT, Int.reduceEq, Nat.reduceMul, Nat.reduceLeDiff, Try.f61, retG, resL, St.closeVs, St.closeV, kA])
    exact nF fun z => g3 z.2.2.1
  simp only [vmA, Nat.reduceEqDiff, reduceIte, Nat.reduceAdd, Nat.reduceBEq, reduceCtorEq, Nat.reduceLT, Int.reduceLE, Int.reduceLT, Int.reduceEq, Nat.reduceMul, Nat.reduceLeDiff, kA]
  refine ⟨fun g4 => ⟨fun g5 => ⟨fun g6 => callD (f16 k.lo k.hi) ?_, fun g6 => ?_⟩, fun g5 => ?_⟩, fun g4 => ?_⟩
  rotate_left
  · (refine hQ _ ?_; simp only [vmA, Nat.reduceEqDiff, reduceIte, Nat.reduceAdd, Nat.reduceBEq, reduceCtorEq, Nat.reduceLT, Int.reduceLE, Int.reduceLT, Int.reduceEq, Nat.reduceMul, Nat.reduceLeDiff, Try.f61, retG, resL, St.closeVs, St.closeV, kA])
    exact nF fun z => absurd g6 (by first | exact z.2.2.2.2.2.1 | exact fun h => h z.2.2.2.2.2.1)
  · (refine hQ _ ?_; simp only [vmA, Nat.reduceEqDiff, reduceIte, Nat.reduceAdd, Nat.reduceBEq, reduceCtorEq, Nat.reduceLT, Int.reduceLE, Int.reduceLT, Int.reduceEq, Nat.reduceMul, Nat.reduceLeDiff, Try.f61, retG, resL, St.closeVs, St.closeV, kA])
    exact nF fun z => g5 z.2.2.2.2.1
  · (refine hQ _ ?_; simp only [vmA, Nat.reduceEqDiff, reduceIte, Nat.reduceAdd, Nat.reduceBEq, reduceCtorEq, Nat.reduceLT, Int.reduceLE, Int.reduceLT, Int.reduceEq, Nat.reduceMul, Nat.reduceLeDiff, Try.f61, retG, resL, St.closeVs, St.closeV, kA])
    exact nF fun z => g4 z.2.2.2.1
  simp only [vmA, Nat.reduceEqDiff, reduceIte, Nat.reduceAdd, Nat.reduceBEq, reduceCtorEq, Nat.reduceLT, Int.reduceLE, Int.reduceLT, Int.reduceEq, Nat.reduceMul, Nat.reduceLeDiff, kA]
  refine ⟨fun g7 => ⟨fun g8 => ?_, fun g8 => ?_⟩, fun g7 => ?_⟩
  rotate_right
  · (refine hQ _ ?_; simp only [vmA, Nat.reduceEqDiff, reduceIte, Nat.reduceAdd, Nat.reduceBEq, reduceCtorEq, Nat.reduceLT, Int.reduceLE, Int.reduceLT, Int.reduceEq, Nat.reduceMul, Nat.reduceLeDiff, Try.f61, retG, resL, St.closeVs, St.closeV, kA])
    exact nF fun z => g7 z.2.2.2.2.2.2.1
  · (refine hQ _ ?_; simp only [vmA, Nat.reduceEqDiff, reduceIte, Nat.reduceAdd, Nat.reduceBEq, reduceCtorEq, Nat.reduceLT, Int.reduceLE, Int.reduceLT, Int.reduceEq, Nat.reduceMul, Nat.reduceLeDiff, Try.f61, retG, resL, St.closeVs, St.closeV, kA])
    exact lT (.inr ⟨h0, g1, ⟨by omega, g2.2⟩, g3, g4, g5, g6, g7, .inl g8⟩)
  · (refine hQ _ ?_; simp only [vmA, Nat.reduceEqDiff, reduceIte, Nat.reduceAdd, Nat.reduceBEq, reduceCtorEq, Nat.reduceLT, Int.reduceLE, Int.reduceLT, Int.reduceEq, Nat.reduceMul, Nat.reduceLeDiff, Try.f61, retG, resL, St.closeVs, St.closeV, kA])
    exact lB ⟨fun h => .inr ⟨h0, g1, ⟨by omega, g2.2⟩, g3, g4, g5, g6, g7, .inr h⟩, fun z => z.elim (fun z => absurd z.1 h0) fun z => z.2.2.2.2.2.2.2.2.elim (fun h => absurd h g8) id⟩
theorem f69 (k : Kn) (h1 : okV k.lo) (h2 : okV k.hi) : Fx 69 [kA k] (.bool (decide (knP k))) := by
  refine fn_of ⟨false, [], []⟩ Try.func69 (by kernel_rfl) rfl (by kernel_rfl) (by kernel_rfl) (Nat.le_of_ble_eq_true rfl) rfl fun Q hQ => ?_
  simp only [vmA, Nat.reduceEqDiff, reduceIte, Nat.reduceAdd, Nat.reduceBEq, reduceCtorEq, Nat.reduceLT, Int.reduceLE, Int.reduceLT, Int.reduceEq, Nat.reduceMul, Nat.reduceLeDiff, kA]
  refine ⟨fun h0 => ?_, fun h0 => callD (f66 _ _ _) ?_⟩
  · (refine hQ _ ?_; simp only [vmA, Nat.reduceEqDiff, reduceIte, Nat.reduceAdd, Nat.reduceBEq, reduceCtorEq, Nat.reduceLT, Int.reduceLE, Int.reduceLT, Int.reduceEq, Nat.reduceMul, Nat.reduceLeDiff, Try.f69, retG, resL, St.closeVs, St.closeV, kA])
    simp only [← Bool.decide_and]
    exact lB ⟨fun h => .inl ⟨h0, h⟩, fun z => z.elim (fun z => z.2) fun z => absurd h0 z.1⟩
  have nF : ¬ knQ k → AV.bool false = AV.bool (decide (knP k)) := fun h => lF fun z => z.elim (fun z => h0 z.1) fun z => h z.2
  simp only [vmA, Nat.reduceEqDiff, reduceIte, Nat.reduceAdd, Nat.reduceBEq, reduceCtorEq, Nat.reduceLT, Int.reduceLE, Int.reduceLT, Int.reduceEq, Nat.reduceMul, Nat.reduceLeDiff, kA]
  refine ⟨fun g1 => ?_, fun g1 => callD (f46 k.lo h1) ?_⟩
  · (refine hQ _ ?_; simp only [vmA, Nat.reduceEqDiff, reduceIte, Nat.reduceAdd, Nat.reduceBEq, reduceCtorEq, Nat.reduceLT, Int.reduceLE, Int.reduceLT, Int.reduceEq, Nat.reduceMul, Nat.reduceLeDiff, Try.f69, retG, resL, St.closeVs, St.closeV, kA])
    exact nF fun z => g1 z.1
  simp only [vmA, Nat.reduceEqDiff, reduceIte, Nat.reduceAdd, Nat.reduceBEq, reduceCtorEq, Nat.reduceLT, Int.reduceLE, Int.reduceLT, Int.reduceEq, Nat.reduceMul, Nat.reduceLeDiff, kA]
  refine ⟨fun g3 => ?_, fun g3 => callD (f46 k.hi h2) ?_⟩
  · (refine hQ _ ?_; simp only [vmA, Nat.reduceEqDiff, reduceIte, Nat.reduceAdd, Nat.reduceBEq, reduceCtorEq, Nat.reduceLT, Int.reduceLE, Int.reduceLT, Int.reduceEq, Nat.reduceMul, Nat.reduceLeDiff, Try.f69, retG, resL, St.closeVs, St.closeV, kA])
    exact nF fun z => g3 z.2.2.1
  simp only [vmA, Nat.reduceEqDiff, reduceIte, Nat.reduceAdd, Nat.reduceBEq, reduceCtorEq, Nat.reduceLT, Int.reduceLE, Int.reduceLT, Int.reduceEq, Nat.reduceMul, Nat.reduceLeDiff, kA]
  refine ⟨fun g4 => ?_, fun g4 => ⟨fun g5 => ?_, fun g5 => ⟨fun g6 => ?_, fun g6 => callD (f18 k.lo k.hi g3 g4 h1 h2) ?_⟩⟩⟩
  · (refine hQ _ ?_; simp only [vmA, Nat.reduceEqDiff, reduceIte, Nat.reduceAdd, Nat.reduceBEq, reduceCtorEq, Nat.reduceLT, Int.reduceLE, Int.reduceLT, Int.reduceEq, Nat.reduceMul, Nat.reduceLeDiff, Try.f69, retG, resL, St.closeVs, St.closeV, kA])
    exact nF fun z => g4 z.2.2.2.1
  · (refine hQ _ ?_; simp only [vmA, Nat.reduceEqDiff, reduceIte, Nat.reduceAdd, Nat.reduceBEq, reduceCtorEq, Nat.reduceLT, Int.reduceLE, Int.reduceLT, Int.reduceEq, Nat.reduceMul, Nat.reduceLeDiff, Try.f69, retG, resL, St.closeVs, St.closeV, kA])
    exact nF fun z => g5 z.2.2.2.2.1
  · (refine hQ _ ?_; simp only [vmA, Nat.reduceEqDiff, reduceIte, Nat.reduceAdd, Nat.reduceBEq, reduceCtorEq, Nat.reduceLT, Int.reduceLE, Int.reduceLT, Int.reduceEq, Nat.reduceMul, Nat.reduceLeDiff, Try.f69, retG, resL, St.closeVs, St.closeV, kA])
    exact nF fun z => z.2.2.2.2.2.1 g6
  simp only [vmA, Nat.reduceEqDiff, reduceIte, Nat.reduceAdd, Nat.reduceBEq, reduceCtorEq, Nat.reduceLT, Int.reduceLE, Int.reduceLT, Int.reduceEq, Nat.reduceMul, Nat.reduceLeDiff, kA]
  refine ⟨fun g7 => ?_, fun g7 => ?_⟩
  rotate_left
  · (refine hQ _ ?_; simp only [vmA, Nat.reduceEqDiff, reduceIte, Nat.reduceAdd, Nat.reduceBEq, reduceCtorEq, Nat.reduceLT, Int.reduceLE, Int.reduceLT, Int.reduceEq, Nat.reduceMul, Nat.reduceLeDiff, Try.f69, retG, resL, St.closeVs, St.closeV, kA])
    exact nF fun z => g7 z.2.2.2.2.2.2.1
  rw [wr (x := -9999 * k.many) (by omega), wr (x := 9999 * k.many) (by omega)]
  refine callD (f66 _ _ _) ?_
  simp only [vmA, Nat.reduceEqDiff, reduceIte, Nat.reduceAdd, Nat.reduceBEq, reduceCtorEq, Nat.reduceLT, Int.reduceLE, Int.reduceLT, Int.reduceEq, Nat.reduceMul, Nat.reduceLeDiff, kA]
  refine ⟨fun g2 => ⟨fun g8 => ?_, fun g8 => ?_⟩, fun g2 => ?_⟩
  rotate_right
  · (refine hQ _ ?_; simp only [vmA, Nat.reduceEqDiff, reduceIte, Nat.reduceAdd, Nat.reduceBEq, reduceCtorEq, Nat.reduceLT, Int.reduceLE, Int.reduceLT, Int.reduceEq, Nat.reduceMul, Nat.reduceLeDiff, Try.f69, retG, resL, St.closeVs, St.closeV, kA])
    exact nF fun z => g2 ⟨by have := z.2.1.1; omega, z.2.1.2⟩
  · (refine hQ _ ?_; simp only [vmA, Nat.reduceEqDiff, reduceIte, Nat.reduceAdd, Nat.reduceBEq, reduceCtorEq, Nat.reduceLT, Int.reduceLE, Int.reduceLT, Int.reduceEq, Nat.reduceMul, Nat.reduceLeDiff, Try.f69, retG, resL, St.closeVs, St.closeV, kA])
    exact lT (.inr ⟨h0, g1, ⟨by omega, g2.2⟩, g3, g4, g5, g6, g7, .inl g8⟩)
  · (refine hQ _ ?_; simp only [vmA, Nat.reduceEqDiff, reduceIte, Nat.reduceAdd, Nat.reduceBEq, reduceCtorEq, Nat.reduceLT, Int.reduceLE, Int.reduceLT, Int.reduceEq, Nat.reduceMul, Nat.reduceLeDiff, Try.f69, retG, resL, St.closeVs, St.closeV, kA])
    exact lB ⟨fun h => .inr ⟨h0, g1, ⟨by omega, g2.2⟩, g3, g4, g5, g6, g7, .inr h⟩, fun z => z.elim (fun z => absurd z.1 h0) fun z => z.2.2.2.2.2.2.2.2.elim (fun h => absurd h g8) id⟩
