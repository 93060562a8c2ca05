/- WALK of functions of the seat, or plain laws for it: each theorem f<k> says what function k returns, for every world and all arguments that stand for the values named. Conditions: none but those ahead of each theorem. -/
import Derived.Test.YtboeimkfcfdabaaWK6
open Go Go.Vm Go.Proofs
set_option maxRecDepth 100000
set_option maxHeartbeats 8000000
set_option linter.unusedSimpArgs false
set_option linter.unusedVariables false
theorem f71 (a b : Kn) (ha : okK a) (hb : okK b) : Fx 71 [kA a, kA b] (kA (knBoth a b)) := by
  refine fn_of ⟨true, [], []⟩ Try.func71 (by kernel_rfl) rfl (by kernel_rfl) (by kernel_rfl) (Nat.le_of_ble_eq_true rfl) rfl fun Q hQ => ?_
  simp only [vmA, Nat.reduceEqDiff, reduceIte, Nat.reduceAdd, Nat.reduceBEq, reduceCtorEq, Nat.reduceLT, Int.reduceLE, Int.reduceLT, Int.reduceEq, Nat.reduceMul, Nat.reduceLeDiff, kA, Option.bind_none]
  refine callD (f69 a ha.1 ha.2) ?_
  simp only [vmA, Nat.reduceEqDiff, reduceIte, Nat.reduceAdd, Nat.reduceBEq, reduceCtorEq, Nat.reduceLT, Int.reduceLE, Int.reduceLT, Int.reduceEq, Nat.reduceMul, Nat.reduceLeDiff, kA, Option.bind_none]
  refine ⟨fun g1 => ?_, fun g1 => callD (f69 b hb.1 hb.2) ?_⟩
  · (refine hQ _ ?_; simp only [vmA, Nat.reduceEqDiff, reduceIte, Nat.reduceAdd, Nat.reduceBEq, reduceCtorEq, Nat.reduceLT, Int.reduceLE, Int.reduceLT, Int.reduceEq, Nat.reduceMul, Nat.reduceLeDiff, Try.f71, retG, resL, St.closeVs, St.closeV, kA, Option.bind_none])
    unfold knBoth
    rw [if_pos (.inl g1)]
    rfl
  simp only [vmA, Nat.reduceEqDiff, reduceIte, Nat.reduceAdd, Nat.reduceBEq, reduceCtorEq, Nat.reduceLT, Int.reduceLE, Int.reduceLT, Int.reduceEq, Nat.reduceMul, Nat.reduceLeDiff, kA, Option.bind_none]
  refine ⟨fun g2 => ?_, fun g2 => ⟨fun g3 => ?_, fun g3 => ⟨fun g4 => ?_, fun g4 => ⟨fun g5 => ?_, fun g5 => ?_⟩⟩⟩⟩
  · (refine hQ _ ?_; simp only [vmA, Nat.reduceEqDiff, reduceIte, Nat.reduceAdd, Nat.reduceBEq, reduceCtorEq, Nat.reduceLT, Int.reduceLE, Int.reduceLT, Int.reduceEq, Nat.reduceMul, Nat.reduceLeDiff, Try.f71, retG, resL, St.closeVs, St.closeV, kA, Option.bind_none])
    unfold knBoth
    rw [if_pos (.inr g2)]
    rfl
  · (refine hQ _ ?_; simp only [vmA, Nat.reduceEqDiff, reduceIte, Nat.reduceAdd, Nat.reduceBEq, reduceCtorEq, Nat.reduceLT, Int.reduceLE, Int.reduceLT, Int.reduceEq, Nat.reduceMul, Nat.reduceLeDiff, Try.f71, retG, resL, St.closeVs, St.closeV, kA, Option.bind_none])
    unfold knBoth
    rw [if_neg (fun h => h.elim (fun h => h g1) fun h => h g2), if_pos g3]
  · (refine hQ _ ?_; simp only [vmA, Nat.reduceEqDiff, reduceIte, Nat.reduceAdd, Nat.reduceBEq, reduceCtorEq, Nat.reduceLT, Int.reduceLE, Int.reduceLT, Int.reduceEq, Nat.reduceMul, Nat.reduceLeDiff, Try.f71, retG, resL, St.closeVs, St.closeV, kA, Option.bind_none])
    unfold knBoth
    rw [if_neg (fun h => h.elim (fun h => h g1) fun h => h g2), if_neg g3, if_pos g4]
  · (refine hQ _ ?_; simp only [vmA, Nat.reduceEqDiff, reduceIte, Nat.reduceAdd, Nat.reduceBEq, reduceCtorEq, Nat.reduceLT, Int.reduceLE, Int.reduceLT, Int.reduceEq, Nat.reduceMul, Nat.reduceLeDiff, Try.f71, retG, resL, St.closeVs, St.closeV, kA, Option.bind_none])
    unfold knBoth
    rw [if_neg (fun h => h.elim (fun h => h g1) fun h => h g2), if_neg g3, if_neg g4, if_pos (.inl g5)]
    rfl
  have qa : knQ a := g1.elim (fun z => absurd z.1 g3) fun z => z.2
  have qb : knQ b := g2.elim (fun z => absurd z.1 g4) fun z => z.2
  have ba : (1 ≤ a.many ∧ a.many ≤ 100) ∧ (-(9999 * a.many) ≤ a.sum ∧ a.sum ≤ 9999 * a.many) := ⟨qa.1, qa.2.1⟩
  have bb : (1 ≤ b.many ∧ b.many ≤ 100) ∧ (-(9999 * b.many) ≤ b.sum ∧ b.sum ≤ 9999 * b.many) := ⟨qb.1, qb.2.1⟩
  rw [wr (x := a.many + b.many) (by omega)]
  refine ⟨fun g6 => ?_, fun g6 => callD (f18 b.lo a.lo qb.2.2.1 qa.2.2.1 hb.1 ha.1) ?_⟩
  · (refine hQ _ ?_; simp only [vmA, Nat.reduceEqDiff, reduceIte, Nat.reduceAdd, Nat.reduceBEq, reduceCtorEq, Nat.reduceLT, Int.reduceLE, Int.reduceLT, Int.reduceEq, Nat.reduceMul, Nat.reduceLeDiff, Try.f71, retG, resL, St.closeVs, St.closeV, kA, Option.bind_none])
    unfold knBoth
    rw [if_neg (fun h => h.elim (fun h => h g1) fun h => h g2), if_neg g3, if_neg g4, if_pos (.inr g6)]
    rfl
  simp only [vmA, Nat.reduceEqDiff, reduceIte, Nat.reduceAdd, Nat.reduceBEq, reduceCtorEq, Nat.reduceLT, Int.reduceLE, Int.reduceLT, Int.reduceEq, Nat.reduceMul, Nat.reduceLeDiff, kA, Option.bind_none]
  refine ⟨fun g7 => callD (f18 b.hi a.hi qb.2.2.2.1 qa.2.2.2.1 hb.2 ha.2) ?_, fun g7 => callD (f18 b.hi a.hi qb.2.2.2.1 qa.2.2.2.1 hb.2 ha.2) ?_⟩
  all_goals (
    simp only [vmA, Nat.reduceEqDiff, reduceIte, Nat.reduceAdd, Nat.reduceBEq, reduceCtorEq, Nat.reduceLT, Int.reduceLE, Int.reduceLT, Int.reduceEq, Nat.reduceMul, Nat.reduceLeDiff, kA, Option.bind_none]
    refine ⟨fun g8 => ?_, fun g8 => ?_⟩)
  all_goals (
    (refine hQ _ ?_; simp only [vmA, Nat.reduceEqDiff, reduceIte, Nat.reduceAdd, Nat.reduceBEq, reduceCtorEq, Nat.reduceLT, Int.reduceLE, Int.reduceLT, Int.reduceEq, Nat.reduceMul, Nat.reduceLeDiff, Try.f71, retG, resL, St.closeVs, St.closeV, kA, Option.bind_none])
    unfold knBoth
    rw [if_neg (fun h => h.elim (fun h => h g1) fun h => h g2), if_neg g3, if_neg g4, if_neg (fun h => h.elim (fun h => h g5) g6)]
    rw [wr (x := a.sum + b.sum) (by omega)]
    first | rw [if_pos g7] | rw [if_neg g7]
    first | rw [if_pos g8] | rw [if_neg g8])
theorem valNum {n : Int} (h : -9999 ≤ n ∧ n ≤ 9999) : valP ⟨1, n, ⟨⟨[]⟩⟩⟩ := .inr (.inl ⟨rfl, rfl, h.1, h.2⟩)
def numV (n : Int) : Val := if -9999 ≤ n ∧ n ≤ 9999 then ⟨1, n, ⟨⟨[]⟩⟩⟩ else zV
theorem f62 (n : Int) : Fx 62 [.int .i64 n] (vA (numV n)) := by
  refine fn_of ⟨true, [], []⟩ Try.func62 (by kernel_rfl) rfl (by kernel_rfl) (by kernel_rfl) (Nat.le_of_ble_eq_true rfl) rfl fun Q hQ => ?_
  simp only [vmA, Nat.reduceEqDiff, reduceIte, Nat.reduceAdd, Nat.reduceBEq, reduceCtorEq, Nat.reduceLT, Int.reduceLE, Int.reduceLT, Int.reduceEq, Nat.reduceMul, Nat.reduceLeDiff, Option.bind_none]
  refine callD (f73 ⟨1, n, ⟨⟨[]⟩⟩⟩ (Nat.zero_le _)) ?_
  simp only [vmA, Nat.reduceEqDiff, reduceIte, Nat.reduceAdd, Nat.reduceBEq, reduceCtorEq, Nat.reduceLT, Int.reduceLE, Int.reduceLT, Int.reduceEq, Nat.reduceMul, Nat.reduceLeDiff, Option.bind_none]
  refine ⟨fun h => ?_, fun h => ?_⟩
  · (refine hQ _ ?_; simp only [vmA, Nat.reduceEqDiff, reduceIte, Nat.reduceAdd, Nat.reduceBEq, reduceCtorEq, Nat.reduceLT, Int.reduceLE, Int.reduceLT, Int.reduceEq, Nat.reduceMul, Nat.reduceLeDiff, Try.f62, retG, resL, St.closeVs, St.closeV, Option.bind_none])
    unfold numV
    rw [if_neg fun z => h (valNum z)]
    rfl
  · (refine hQ _ ?_; simp only [vmA, Nat.reduceEqDiff, reduceIte, Nat.reduceAdd, Nat.reduceBEq, reduceCtorEq, Nat.reduceLT, Int.reduceLE, Int.reduceLT, Int.reduceEq, Nat.reduceMul, Nat.reduceLeDiff, Try.f62, retG, resL, St.closeVs, St.closeV, Option.bind_none])
    unfold numV
    rw [if_pos (by
      rcases h with ⟨a, _⟩ | ⟨_, _, a, b⟩ | ⟨a, _⟩ | ⟨a, _⟩
      · exact absurd (show (1 : Int) = _ from a) (by decide)
      · exact ⟨a, b⟩
      · exact absurd (show (1 : Int) = _ from a) (by decide)
      · exact absurd (show (1 : Int) = _ from a) (by decide))]
    rfl
def knTell (k : Kn) (t : Int) : Val :=
  if ¬ knP k then zV else if t = 1 then numV k.many else if t = 2 then (if k.lo.k = 1 then numV k.sum else zV) else if t = 3 then k.lo else if t = 4 then k.hi else zV
theorem f23 (k : Kn) (t : Int) (hk : okK k) : Fx 23 [kA k, .int .i64 t] (vA (knTell k t)) := by
  refine fn_of ⟨true, [], []⟩ Try.func23 (by kernel_rfl) rfl (by kernel_rfl) (by kernel_rfl) (Nat.le_of_ble_eq_true rfl) rfl fun Q hQ => ?_
  simp only [vmA, Nat.reduceEqDiff, reduceIte, Nat.reduceAdd, Nat.reduceBEq, reduceCtorEq, Nat.reduceLT, Int.reduceLE, Int.reduceLT, Int.reduceEq, Nat.reduceMul, Nat.reduceLeDiff, kA, Option.bind_none]
  refine callD (f61 k hk.1 hk.2) ?_
  simp only [vmA, Nat.reduceEqDiff, reduceIte, Nat.reduceAdd, Nat.reduceBEq, reduceCtorEq, Nat.reduceLT, Int.reduceLE, Int.reduceLT, Int.reduceEq, Nat.reduceMul, Nat.reduceLeDiff, kA, Option.bind_none]
  refine ⟨fun g => ?_, fun g => ⟨fun h1 => callD (f62 k.many) ?_, fun h1 => ⟨fun h2 => ⟨fun h0 => callD (f62 k.sum) ?_, fun h0 => ?_⟩, fun h2 => ⟨fun h3 => ?_, fun h3 => ⟨fun h4 => ?_, fun h4 => ?_⟩⟩⟩⟩⟩
  all_goals (try simp only [vmA, Nat.reduceEqDiff, reduceIte, Nat.reduceAdd, Nat.reduceBEq, reduceCtorEq, Nat.reduceLT, Int.reduceLE, Int.reduceLT, Int.reduceEq, Nat.reduceMul, Nat.reduceLeDiff, kA, vA, Option.bind_none])
  · (refine hQ _ ?_; simp only [vmA, Nat.reduceEqDiff, reduceIte, Nat.reduceAdd, Nat.reduceBEq, reduceCtorEq, Nat.reduceLT, Int.reduceLE, Int.reduceLT, Int.reduceEq, Nat.reduceMul, Nat.reduceLeDiff, Try.f23, retG, resL, St.closeVs, St.closeV, kA, vA, Option.bind_none])
    unfold knTell
    rw [if_pos g]
    rfl
  · (refine hQ _ ?_; simp only [vmA, Nat.reduceEqDiff, reduceIte, Nat.reduceAdd, Nat.reduceBEq, reduceCtorEq, Nat.reduceLT, Int.reduceLE, Int.reduceLT, Int.reduceEq, Nat.reduceMul, Nat.reduceLeDiff, Try.f23, retG, resL, St.closeVs, St.closeV, kA, vA, Option.bind_none])
    unfold knTell
    rw [if_neg (fun z => z g), if_pos h1]
  · (refine hQ _ ?_; simp only [vmA, Nat.reduceEqDiff, reduceIte, Nat.reduceAdd, Nat.reduceBEq, reduceCtorEq, Nat.reduceLT, Int.reduceLE, Int.reduceLT, Int.reduceEq, Nat.reduceMul, Nat.reduceLeDiff, Try.f23, retG, resL, St.closeVs, St.closeV, kA, vA, Option.bind_none])
    unfold knTell
    rw [if_neg (fun z => z g), if_neg h1, if_pos h2, if_pos h0]
  · (refine hQ _ ?_; simp only [vmA, Nat.reduceEqDiff, reduceIte, Nat.reduceAdd, Nat.reduceBEq, reduceCtorEq, Nat.reduceLT, Int.reduceLE, Int.reduceLT, Int.reduceEq, Nat.reduceMul, Nat.reduceLeDiff, Try.f23, retG, resL, St.closeVs, St.closeV, kA, vA, Option.bind_none])
    unfold knTell
    rw [if_neg (fun z => z g), if_neg h1, if_pos h2, if_neg h0]
    rfl
  · (refine hQ _ ?_; simp only [vmA, Nat.reduceEqDiff, reduceIte, Nat.reduceAdd, Nat.reduceBEq, reduceCtorEq, Nat.reduceLT, Int.reduceLE, Int.reduceLT, Int.reduceEq, Nat.reduceMul, Nat.reduceLeDiff, Try.f23, retG, resL, St.closeVs, St.closeV, kA, vA, Option.bind_none])
    unfold knTell
    rw [if_neg (fun z => z g), if_neg h1, if_neg h2, if_pos h3]
  · (refine hQ _ ?_; simp only [vmA, Nat.reduceEqDiff, reduceIte, Nat.reduceAdd, Nat.reduceBEq, reduceCtorEq, Nat.reduceLT, Int.reduceLE, Int.reduceLT, Int.reduceEq, Nat.reduceMul, Nat.reduceLeDiff, Try.f23, retG, resL, St.closeVs, St.closeV, kA, vA, Option.bind_none])
    unfold knTell
    rw [if_neg (fun z => z g), if_neg h1, if_neg h2, if_neg h3, if_pos h4]
  · (refine hQ _ ?_; simp only [vmA, Nat.reduceEqDiff, reduceIte, Nat.reduceAdd, Nat.reduceBEq, reduceCtorEq, Nat.reduceLT, Int.reduceLE, Int.reduceLT, Int.reduceEq, Nat.reduceMul, Nat.reduceLeDiff, Try.f23, retG, resL, St.closeVs, St.closeV, kA, vA, Option.bind_none])
    unfold knTell
    rw [if_neg (fun z => z g), if_neg h1, if_neg h2, if_neg h3, if_neg h4]
    rfl
theorem f32 (k : Kn) (t : Int) (hk : okK k) : Fx 32 [kA k, .int .i64 t] (vA (knTell k t)) := by
  refine fn_of ⟨true, [], []⟩ Try.func32 (by kernel_rfl) rfl (by kernel_rfl) (by kernel_rfl) (Nat.le_of_ble_eq_true rfl) rfl fun Q hQ => ?_
  simp only [vmA, Nat.reduceEqDiff, reduceIte, Nat.reduceAdd, Nat.reduceBEq, reduceCtorEq, Nat.reduceLT, Int.reduceLE, Int.reduceLT, Int.reduceEq, Nat.reduceMul, Nat.reduceLeDiff, kA, Option.bind_none]
  refine callD (f69 k hk.1 hk.2) ?_
  simp only [vmA, Nat.reduceEqDiff, reduceIte, Nat.reduceAdd, Nat.reduceBEq, reduceCtorEq, Nat.reduceLT, Int.reduceLE, Int.reduceLT, Int.reduceEq, Nat.reduceMul, Nat.reduceLeDiff, kA, Option.bind_none]
  refine ⟨fun g => ?_, fun g => ⟨fun h1 => ?_, fun h1 => ⟨fun h2 => ⟨fun h0 => callD (f66 _ _ _) ?_, fun h0 => ?_⟩, fun h2 => ?_⟩⟩⟩
  · (refine hQ _ ?_; simp only [vmA, Nat.reduceEqDiff, reduceIte, Nat.reduceAdd, Nat.reduceBEq, reduceCtorEq, Nat.reduceLT, Int.reduceLE, Int.reduceLT, Int.reduceEq, Nat.reduceMul, Nat.reduceLeDiff, Try.f32, retG, resL, St.closeVs, St.closeV, kA, vA, Option.bind_none])
    unfold knTell
    rw [if_pos g]
    rfl
  · (refine hQ _ ?_; simp only [vmA, Nat.reduceEqDiff, reduceIte, Nat.reduceAdd, Nat.reduceBEq, reduceCtorEq, Nat.reduceLT, Int.reduceLE, Int.reduceLT, Int.reduceEq, Nat.reduceMul, Nat.reduceLeDiff, Try.f32, retG, resL, St.closeVs, St.closeV, kA, vA, Option.bind_none])
    unfold knTell
    rw [if_neg (fun z => z g), if_pos h1]
    unfold numV
    rw [if_pos (g.elim (fun z => by have := z.1; omega) fun z => by have := z.2.1; omega)]
  · simp only [vmA, Nat.reduceEqDiff, reduceIte, Nat.reduceAdd, Nat.reduceBEq, reduceCtorEq, Nat.reduceLT, Int.reduceLE, Int.reduceLT, Int.reduceEq, Nat.reduceMul, Nat.reduceLeDiff, kA, Option.bind_none]
    refine ⟨fun g3 => ?_, fun g3 => ⟨fun h3 => absurd (h2.symm.trans h3) (by decide), fun h3 => ⟨fun h4 => absurd (h2.symm.trans h4) (by decide), fun h4 => ?_⟩⟩⟩
    · (refine hQ _ ?_; simp only [vmA, Nat.reduceEqDiff, reduceIte, Nat.reduceAdd, Nat.reduceBEq, reduceCtorEq, Nat.reduceLT, Int.reduceLE, Int.reduceLT, Int.reduceEq, Nat.reduceMul, Nat.reduceLeDiff, Try.f32, retG, resL, St.closeVs, St.closeV, kA, vA, Option.bind_none])
      unfold knTell
      rw [if_neg (fun z => z g), if_neg h1, if_pos h2, if_pos h0]
      unfold numV
      rw [if_pos g3]
    · (refine hQ _ ?_; simp only [vmA, Nat.reduceEqDiff, reduceIte, Nat.reduceAdd, Nat.reduceBEq, reduceCtorEq, Nat.reduceLT, Int.reduceLE, Int.reduceLT, Int.reduceEq, Nat.reduceMul, Nat.reduceLeDiff, Try.f32, retG, resL, St.closeVs, St.closeV, kA, vA, Option.bind_none])
      unfold knTell
      rw [if_neg (fun z => z g), if_neg h1, if_pos h2, if_pos h0]
      unfold numV
      rw [if_neg g3]
      rfl
  · refine ⟨fun h3 => absurd (h2.symm.trans h3) (by decide), fun h3 => ⟨fun h4 => absurd (h2.symm.trans h4) (by decide), fun h4 => ?_⟩⟩
    (refine hQ _ ?_; simp only [vmA, Nat.reduceEqDiff, reduceIte, Nat.reduceAdd, Nat.reduceBEq, reduceCtorEq, Nat.reduceLT, Int.reduceLE, Int.reduceLT, Int.reduceEq, Nat.reduceMul, Nat.reduceLeDiff, Try.f32, retG, resL, St.closeVs, St.closeV, kA, vA, Option.bind_none])
    unfold knTell
    rw [if_neg (fun z => z g), if_neg h1, if_pos h2, if_neg h0]
    rfl
  · refine ⟨fun h3 => ?_, fun h3 => ⟨fun h4 => ?_, fun h4 => ?_⟩⟩
    · (refine hQ _ ?_; simp only [vmA, Nat.reduceEqDiff, reduceIte, Nat.reduceAdd, Nat.reduceBEq, reduceCtorEq, Nat.reduceLT, Int.reduceLE, Int.reduceLT, Int.reduceEq, Nat.reduceMul, Nat.reduceLeDiff, Try.f32, retG, resL, St.closeVs, St.closeV, kA, vA, Option.bind_none])
      unfold knTell
      rw [if_neg (fun z => z g), if_neg h1, if_neg h2, if_pos h3]
    · (refine hQ _ ?_; simp only [vmA, Nat.reduceEqDiff, reduceIte, Nat.reduceAdd, Nat.reduceBEq, reduceCtorEq, Nat.reduceLT, Int.reduceLE, Int.reduceLT, Int.reduceEq, Nat.reduceMul, Nat.reduceLeDiff, Try.f32, retG, resL, St.closeVs, St.closeV, kA, vA, Option.bind_none])
      unfold knTell
      rw [if_neg (fun z => z g), if_neg h1, if_neg h2, if_neg h3, if_pos h4]
    · (refine hQ _ ?_; simp only [vmA, Nat.reduceEqDiff, reduceIte, Nat.reduceAdd, Nat.reduceBEq, reduceCtorEq, Nat.reduceLT, Int.reduceLE, Int.reduceLT, Int.reduceEq, Nat.reduceMul, Nat.reduceLeDiff, Try.f32, retG, resL, St.closeVs, St.closeV, kA, vA, Option.bind_none])
      unfold knTell
      rw [if_neg (fun z => z g), if_neg h1, if_neg h2, if_neg h3, if_neg h4]
      rfl
