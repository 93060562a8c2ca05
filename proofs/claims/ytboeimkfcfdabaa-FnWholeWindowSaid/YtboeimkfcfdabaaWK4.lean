/- WALK of functions of the seat, or plain laws for it: each theorem f<k> says what function k returns, for every world and all arguments that stand for the values named. Conditions: none but those ahead of each theorem. -/
import Derived.Test.YtboeimkfcfdabaaWK3
open Go Go.Vm Go.Proofs
set_option maxRecDepth 100000
set_option maxHeartbeats 8000000
set_option linter.unusedSimpArgs false
set_option linter.unusedVariables false
/-- Groups can be told. -/
def toldP (cs : List Col) (bl : List Int) (o t : Int) : Prop := colsP cs ∧ bl.length ≤ 3 ∧ (∀ n ∈ bl, 0 ≤ n ∧ n < cs.length) ∧ (0 ≤ o ∧ o < cs.length) ∧ (1 ≤ t ∧ t ≤ 4) ∧ (¬ t = 2 ∨ cs[o.toNat]!.k = 1)
instance (cs : List Col) (bl : List Int) (o t : Int) : Decidable (toldP cs bl o t) := by unfold toldP; exact inferInstance
theorem f20 (cs : List Col) (c : Bool) (bl : List Int) (d : Bool) (o t : Int) (hc : cs.length ≤ 1048576) (hl : bl.length ≤ 1048576) : Fx 20 [.fro none c (cs.map cA), .fro none d (bl.map iA), .int .i64 o, .int .i64 t] (.bool (decide (toldP cs bl o t))) := by
  refine fn_of ⟨false, [], []⟩ Try.func20 (by kernel_rfl) rfl (by kernel_rfl) (by kernel_rfl) (Nat.le_of_ble_eq_true rfl) rfl fun Q hQ => ?_
  simp only [vmA, Nat.reduceEqDiff, reduceIte, Nat.reduceAdd, Nat.reduceBEq, reduceCtorEq, Nat.reduceLT, Int.reduceLE, Int.reduceLT, Int.reduceEq, Nat.reduceMul, Nat.reduceLeDiff, captureL, capture, get_tmp, Option.bind_none]
  refine callD (f49 cs c (by omega)) ?_
  simp only [vmA, Nat.reduceEqDiff, reduceIte, Nat.reduceAdd, Nat.reduceBEq, reduceCtorEq, Nat.reduceLT, Int.reduceLE, Int.reduceLT, Int.reduceEq, Nat.reduceMul, Nat.reduceLeDiff, captureL, capture, get_tmp, Option.bind_none, List.length_map]
  refine ⟨fun g1 => ⟨fun g2 => callD (f50 cs c hc bl d (by omega)) ?_, fun g2 => ?_⟩, fun g1 => ?_⟩
  rotate_left
  · (refine hQ _ ?_; simp only [vmA, Nat.reduceEqDiff, reduceIte, Nat.reduceAdd, Nat.reduceBEq, reduceCtorEq, Nat.reduceLT, Int.reduceLE, Int.reduceLT, Int.reduceEq, Nat.reduceMul, Nat.reduceLeDiff, Try.f20, retG, resL, St.closeVs, St.closeV])
    exact lF fun z => g2 (by have := z.2.1; omega)
  · (refine hQ _ ?_; simp only [vmA, Nat.reduceEqDiff, reduceIte, Nat.reduceAdd, Nat.reduceBEq, reduceCtorEq, Nat.reduceLT, Int.reduceLE, Int.reduceLT, Int.reduceEq, Nat.reduceMul, Nat.reduceLeDiff, Try.f20, retG, resL, St.closeVs, St.closeV])
    exact lF fun z => g1 z.1
  simp only [vmA, Nat.reduceEqDiff, reduceIte, Nat.reduceAdd, Nat.reduceBEq, reduceCtorEq, Nat.reduceLT, Int.reduceLE, Int.reduceLT, Int.reduceEq, Nat.reduceMul, Nat.reduceLeDiff, List.length_map]
  refine ⟨fun g3 => ?_, fun g3 => ?_⟩
  rotate_left
  · (refine hQ _ ?_; simp only [vmA, Nat.reduceEqDiff, reduceIte, Nat.reduceAdd, Nat.reduceBEq, reduceCtorEq, Nat.reduceLT, Int.reduceLE, Int.reduceLT, Int.reduceEq, Nat.reduceMul, Nat.reduceLeDiff, Try.f20, retG, resL, St.closeVs, St.closeV])
    exact lF fun z => by obtain ⟨r, h1, h2⟩ := g3; exact h2 (z.2.2.1 r h1)
  have g3' : ∀ n ∈ bl, 0 ≤ n ∧ n < (cs.length : Int) := fun n hn => Classical.byContradiction fun h => g3 ⟨n, hn, h⟩
  rw [wr (by omega)]
  refine callD (f52 _ _ _) ?_
  simp only [vmA, Nat.reduceEqDiff, reduceIte, Nat.reduceAdd, Nat.reduceBEq, reduceCtorEq, Nat.reduceLT, Int.reduceLE, Int.reduceLT, Int.reduceEq, Nat.reduceMul, Nat.reduceLeDiff, List.length_map]
  refine ⟨fun g4 => callD (f52 _ _ _) ?_, fun g4 => ?_⟩
  rotate_left
  · (refine hQ _ ?_; simp only [vmA, Nat.reduceEqDiff, reduceIte, Nat.reduceAdd, Nat.reduceBEq, reduceCtorEq, Nat.reduceLT, Int.reduceLE, Int.reduceLT, Int.reduceEq, Nat.reduceMul, Nat.reduceLeDiff, Try.f20, retG, resL, St.closeVs, St.closeV])
    exact lF fun z => g4 ⟨z.2.2.2.1.1, by have := z.2.2.2.1.2; omega⟩
  simp only [vmA, Nat.reduceEqDiff, reduceIte, Nat.reduceAdd, Nat.reduceBEq, reduceCtorEq, Nat.reduceLT, Int.reduceLE, Int.reduceLT, Int.reduceEq, Nat.reduceMul, Nat.reduceLeDiff, List.length_map, cA]
  refine ⟨fun g5 => ⟨fun g6 => ?_, fun g6 => ?_⟩, fun g5 => ?_⟩
  · (refine hQ _ ?_; simp only [vmA, Nat.reduceEqDiff, reduceIte, Nat.reduceAdd, Nat.reduceBEq, reduceCtorEq, Nat.reduceLT, Int.reduceLE, Int.reduceLT, Int.reduceEq, Nat.reduceMul, Nat.reduceLeDiff, Try.f20, retG, resL, St.closeVs, St.closeV])
    exact lT ⟨g1, by omega, g3', ⟨g4.1, by omega⟩, g5, .inl g6⟩
  · refine ⟨⟨by omega, by omega⟩, by omega, ?_⟩
    (refine hQ _ ?_; simp only [vmA, Nat.reduceEqDiff, reduceIte, Nat.reduceAdd, Nat.reduceBEq, reduceCtorEq, Nat.reduceLT, Int.reduceLE, Int.reduceLT, Int.reduceEq, Nat.reduceMul, Nat.reduceLeDiff, Try.f20, retG, resL, St.closeVs, St.closeV])
    exact lB ⟨fun h => ⟨g1, by omega, g3', ⟨g4.1, by omega⟩, g5, .inr h⟩, fun z => z.2.2.2.2.2.elim (fun h => absurd g6 h) id⟩
  · (refine hQ _ ?_; simp only [vmA, Nat.reduceEqDiff, reduceIte, Nat.reduceAdd, Nat.reduceBEq, reduceCtorEq, Nat.reduceLT, Int.reduceLE, Int.reduceLT, Int.reduceEq, Nat.reduceMul, Nat.reduceLeDiff, Try.f20, retG, resL, St.closeVs, St.closeV])
    exact lF fun z => g5 z.2.2.2.2.1
theorem f29 (cs : List Col) (c : Bool) (rs : List (List Val)) (e : Bool) (bl : List Int) (d : Bool) (o t : Int) (hc : cs.length ≤ 1048576) (hl : bl.length ≤ 1048576) (hr : rs.length ≤ 1048576) (hs : ∀ r ∈ rs, okR r) : Fx 29 [.fro none c (cs.map cA), .fro none e (rs.map rA), .fro none d (bl.map iA), .int .i64 o, .int .i64 t] (.bool (decide (toldP cs bl o t ∧ rs.length ≤ 100 ∧ allP cs rs))) := by
  refine fn_of ⟨false, [], []⟩ Try.func29 (by kernel_rfl) rfl (by kernel_rfl) (by kernel_rfl) (Nat.le_of_ble_eq_true rfl) rfl fun Q hQ => ?_
  simp only [vmA, Nat.reduceEqDiff, reduceIte, Nat.reduceAdd, Nat.reduceBEq, reduceCtorEq, Nat.reduceLT, Int.reduceLE, Int.reduceLT, Int.reduceEq, Nat.reduceMul, Nat.reduceLeDiff, List.length_map]
  refine WT_loop (fun (i : Nat) σ => (i ≤ bl.length ∧ ∀ v ∈ bl.take i, 0 ≤ v ∧ v < (cs.length : Int)) ∧ σ.sl 11 = .int .i64 i ∧ σ.sl 0 = .fro none c (cs.map cA) ∧ σ.sl 1 = .fro none e (rs.map rA) ∧ σ.sl 2 = .fro none d (bl.map iA) ∧ σ.sl 3 = .int .i64 o ∧ σ.sl 4 = .int .i64 t) (fun i => bl.length - i) (0) ⟨⟨Nat.zero_le _, by simp⟩, by simp [put_sl, put_en, put_none, init_sl, fresh_sl, fresh_en, ent_sl, ent_en, init_en], by simp [put_sl, put_en, put_none, init_sl, fresh_sl, fresh_en, ent_sl, ent_en, init_en], by simp [put_sl, put_en, put_none, init_sl, fresh_sl, fresh_en, ent_sl, ent_en, init_en], by simp [put_sl, put_en, put_none, init_sl, fresh_sl, fresh_en, ent_sl, ent_en, init_en], by simp [put_sl, put_en, put_none, init_sl, fresh_sl, fresh_en, ent_sl, ent_en, init_en], by simp [put_sl, put_en, put_none, init_sl, fresh_sl, fresh_en, ent_sl, ent_en, init_en]⟩ ?_
  rintro i σ ⟨hi, e11, e0, e1, e2, e3, e4⟩
  obtain ⟨hi, hall⟩ := hi
  simp only [vmA, Nat.reduceEqDiff, reduceIte, Nat.reduceAdd, Nat.reduceBEq, reduceCtorEq, Nat.reduceLT, Int.reduceLE, Int.reduceLT, Int.reduceEq, Nat.reduceMul, Nat.reduceLeDiff, e11, e0, e1, e2, e3, e4, List.length_map]
  refine ⟨fun hlt => ⟨hlt, by omega, ?_⟩, fun hge => callD (f67 cs c rs e (by omega) (by omega) hs) ?_⟩
  · rw [wr (by omega)]
    refine callD (f66 _ _ _) ?_
    simp only [vmA, Nat.reduceEqDiff, reduceIte, Nat.reduceAdd, Nat.reduceBEq, reduceCtorEq, Nat.reduceLT, Int.reduceLE, Int.reduceLT, Int.reduceEq, Nat.reduceMul, Nat.reduceLeDiff, e11, e0, e1, e2, e3, e4, List.length_map]
    refine ⟨fun hn => ?_, fun hn => ?_⟩
    · (refine hQ _ ?_; simp only [vmA, Nat.reduceEqDiff, reduceIte, Nat.reduceAdd, Nat.reduceBEq, reduceCtorEq, Nat.reduceLT, Int.reduceLE, Int.reduceLT, Int.reduceEq, Nat.reduceMul, Nat.reduceLeDiff, Try.f29, retG, resL, St.closeVs, St.closeV, e11, e0, e1, e2, e3, e4])
      exact lF fun z => hn (by have := z.1.2.2.1 bl[i]! (by rw [getElem!_pos bl i (by omega)]; exact List.getElem_mem _); omega)
    · rw [wr (by omega)]
      refine ⟨i + 1, ⟨⟨by omega, fun v hv => ?_⟩, rfl⟩, by omega⟩
      rw [List.take_succ_eq_append_getElem (by omega)] at hv
      rcases List.mem_append.1 hv with h | h
      · exact hall v h
      · have : v = bl[i]! := by rw [getElem!_pos bl i (by omega)]; simpa using h
        subst this; omega
  · have hall' : ∀ v ∈ bl, 0 ≤ v ∧ v < (cs.length : Int) := fun v hv => hall v (by rw [List.take_of_length_le (by omega)]; exact hv)
    simp only [vmA, Nat.reduceEqDiff, reduceIte, Nat.reduceAdd, Nat.reduceBEq, reduceCtorEq, Nat.reduceLT, Int.reduceLE, Int.reduceLT, Int.reduceEq, Nat.reduceMul, Nat.reduceLeDiff, e11, e0, e1, e2, e3, e4, List.length_map]
    refine ⟨fun g1 => ⟨fun g2 => ⟨fun g3 => ?_, fun g3 => ?_⟩, fun g2 => ?_⟩, fun g1 => ?_⟩
    rotate_left
    · (refine hQ _ ?_; simp only [vmA, Nat.reduceEqDiff, reduceIte, Nat.reduceAdd, Nat.reduceBEq, reduceCtorEq, Nat.reduceLT, Int.reduceLE, Int.reduceLT, Int.reduceEq, Nat.reduceMul, Nat.reduceLeDiff, Try.f29, retG, resL, St.closeVs, St.closeV, e11, e0, e1, e2, e3, e4])
      exact lF fun z => g3 (by have := z.1.2.1; omega)
    · (refine hQ _ ?_; simp only [vmA, Nat.reduceEqDiff, reduceIte, Nat.reduceAdd, Nat.reduceBEq, reduceCtorEq, Nat.reduceLT, Int.reduceLE, Int.reduceLT, Int.reduceEq, Nat.reduceMul, Nat.reduceLeDiff, Try.f29, retG, resL, St.closeVs, St.closeV, e11, e0, e1, e2, e3, e4])
      exact lF fun z => g2 (by have := z.2.1; omega)
    · (refine hQ _ ?_; simp only [vmA, Nat.reduceEqDiff, reduceIte, Nat.reduceAdd, Nat.reduceBEq, reduceCtorEq, Nat.reduceLT, Int.reduceLE, Int.reduceLT, Int.reduceEq, Nat.reduceMul, Nat.reduceLeDiff, Try.f29, retG, resL, St.closeVs, St.closeV, e11, e0, e1, e2, e3, e4])
      exact lF fun z => g1 z.2.2
    rw [wr (by omega)]
    refine callD (f66 _ _ _) ?_
    simp only [vmA, Nat.reduceEqDiff, reduceIte, Nat.reduceAdd, Nat.reduceBEq, reduceCtorEq, Nat.reduceLT, Int.reduceLE, Int.reduceLT, Int.reduceEq, Nat.reduceMul, Nat.reduceLeDiff, e11, e0, e1, e2, e3, e4, List.length_map]
    refine ⟨fun g4 => callD (f66 _ _ _) ?_, fun g4 => ?_⟩
    rotate_left
    · (refine hQ _ ?_; simp only [vmA, Nat.reduceEqDiff, reduceIte, Nat.reduceAdd, Nat.reduceBEq, reduceCtorEq, Nat.reduceLT, Int.reduceLE, Int.reduceLT, Int.reduceEq, Nat.reduceMul, Nat.reduceLeDiff, Try.f29, retG, resL, St.closeVs, St.closeV, e11, e0, e1, e2, e3, e4])
      exact lF fun z => g4 ⟨z.1.2.2.2.1.1, by have := z.1.2.2.2.1.2; omega⟩
    simp only [vmA, Nat.reduceEqDiff, reduceIte, Nat.reduceAdd, Nat.reduceBEq, reduceCtorEq, Nat.reduceLT, Int.reduceLE, Int.reduceLT, Int.reduceEq, Nat.reduceMul, Nat.reduceLeDiff, e11, e0, e1, e2, e3, e4, List.length_map, cA]
    refine ⟨fun g5 => ⟨fun g6 => ?_, fun g6 => ?_⟩, fun g5 => ?_⟩
    · (refine hQ _ ?_; simp only [vmA, Nat.reduceEqDiff, reduceIte, Nat.reduceAdd, Nat.reduceBEq, reduceCtorEq, Nat.reduceLT, Int.reduceLE, Int.reduceLT, Int.reduceEq, Nat.reduceMul, Nat.reduceLeDiff, Try.f29, retG, resL, St.closeVs, St.closeV, e11, e0, e1, e2, e3, e4])
      exact lT ⟨⟨g1.1, by omega, hall', ⟨g4.1, by omega⟩, g5, .inl g6⟩, by omega, g1⟩
    · refine ⟨⟨by omega, by omega⟩, by omega, ?_⟩
      (refine hQ _ ?_; simp only [vmA, Nat.reduceEqDiff, reduceIte, Nat.reduceAdd, Nat.reduceBEq, reduceCtorEq, Nat.reduceLT, Int.reduceLE, Int.reduceLT, Int.reduceEq, Nat.reduceMul, Nat.reduceLeDiff, Try.f29, retG, resL, St.closeVs, St.closeV, e11, e0, e1, e2, e3, e4])
      exact lB ⟨fun h => ⟨⟨g1.1, by omega, hall', ⟨g4.1, by omega⟩, g5, .inr h⟩, by omega, g1⟩, fun z => z.1.2.2.2.2.2.elim (fun h => absurd g6 h) id⟩
    · (refine hQ _ ?_; simp only [vmA, Nat.reduceEqDiff, reduceIte, Nat.reduceAdd, Nat.reduceBEq, reduceCtorEq, Nat.reduceLT, Int.reduceLE, Int.reduceLT, Int.reduceEq, Nat.reduceMul, Nat.reduceLeDiff, Try.f29, retG, resL, St.closeVs, St.closeV, e11, e0, e1, e2, e3, e4])
      exact lF fun z => g5 z.1.2.2.2.2.1
