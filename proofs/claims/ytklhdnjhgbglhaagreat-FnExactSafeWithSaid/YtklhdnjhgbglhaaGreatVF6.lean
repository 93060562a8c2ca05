/- WALK of functions of the seat, or plain laws for it: each theorem f<k> says what function k returns, for every world and all arguments that stand for the values named. Conditions: none but those ahead of each theorem. -/
import Derived.Test.YtklhdnjhgbglhaaGreatVA3
open Go Go.Vm Go.Proofs
set_option maxRecDepth 100000
set_option maxHeartbeats 8000000
set_option linter.unusedSimpArgs false
set_option linter.unusedVariables false
set_option maxHeartbeats 8000000
set_option linter.unusedSimpArgs false
set_option linter.unusedVariables false
set_option maxHeartbeats 8000000
set_option linter.unusedSimpArgs false
set_option linter.unusedVariables false
theorem f106 (n : Int) : Fx 106 [.int .i64 n] (.bool (decide (0 ≤ n ∧ n ≤ 4))) := by
  refine fn_of false Tryz.func106 (by kernel_rfl) rfl (by kernel_rfl) (by kernel_rfl) (Nat.le_of_ble_eq_true rfl) rfl fun Q hQ => ?_
  simp only [vmA, Nat.reduceEqDiff, reduceIte, Nat.reduceAdd, Nat.reduceBEq, reduceCtorEq, Nat.reduceLT, Int.reduceLE, Int.reduceLT, Int.reduceEq, Nat.reduceMul, Nat.reduceLeDiff]
  refine callD (f56 _ _ _) ?_
  simp only [vmA, Nat.reduceEqDiff, reduceIte, Nat.reduceAdd, Nat.reduceBEq, reduceCtorEq, Nat.reduceLT, Int.reduceLE, Int.reduceLT, Int.reduceEq, Nat.reduceMul, Nat.reduceLeDiff]
  (refine hQ _ ?_; simp only [vmA, Nat.reduceEqDiff, reduceIte, Nat.reduceAdd, Nat.reduceBEq, reduceCtorEq, Nat.reduceLT, Int.reduceLE, Int.reduceLT, Int.reduceEq, Nat.reduceMul, Nat.reduceLeDiff, Tryz.f106, retG, resL, St.closeVs, St.closeV])
def wOkAt (ws : List Wr) (i : Nat) : Prop := (0 ≤ ws[i]!.key ∧ ws[i]!.key ≤ 4) ∧ rowP ws[i]!.row ∧ ¬ (ws[i]!.gone = true ∧ 0 < ws[i]!.row.length) ∧ ¬ (0 < i ∧ ws[i]!.key ≤ ws[i - 1]!.key)
instance (ws : List Wr) (i : Nat) : Decidable (wOkAt ws i) := by unfold wOkAt; exact inferInstance
def wrsP (ws : List Wr) : Prop := ∀ i, i < ws.length → wOkAt ws i
instance (ws : List Wr) : Decidable (wrsP ws) := by unfold wrsP; exact inferInstance
theorem wrsP_key {ws : List Wr} (h : wrsP ws) : ∀ i, i < ws.length → (i : Int) ≤ ws[i]!.key := by
  intro i
  induction i with
  | zero => exact fun hi => (h 0 hi).1.1
  | succ i ih =>
    intro hi
    have h1 := ih (by omega)
    have h2 := (h (i + 1) hi).2.2.2
    rw [show i + 1 - 1 = i by omega] at h2
    omega
theorem wrsP_len {ws : List Wr} (h : wrsP ws) : ws.length ≤ 5 := by
  apply Decidable.byContradiction
  intro hn
  have h1 := wrsP_key h 5 (by omega)
  have h2 := (h 5 (by omega)).1.2
  omega
theorem f63 (ws : List Wr) (c : Bool) (hl : ws.length ≤ 9223372036854775807) (hs : ∀ w ∈ ws, okW w) : Fx 63 [.fro none c (ws.map wA)] (.bool (decide (wrsP ws))) := by
  refine fn_of false Tryz.func63 (by kernel_rfl) rfl (by kernel_rfl) (by kernel_rfl) (Nat.le_of_ble_eq_true rfl) rfl fun Q hQ => ?_
  simp only [vmA, Nat.reduceEqDiff, reduceIte, Nat.reduceAdd, Nat.reduceBEq, reduceCtorEq, Nat.reduceLT, Int.reduceLE, Int.reduceLT, Int.reduceEq, Nat.reduceMul, Nat.reduceLeDiff]
  refine WT_loop (fun (i : Nat) σ => i ≤ ws.length ∧ σ.sl 0 = .fro none c (ws.map wA) ∧ σ.sl 5 = .fro none c (ws.map wA) ∧ σ.sl 6 = .int .i64 ws.length ∧ σ.sl 7 = .int .i64 i ∧ ∀ k, k < i → wOkAt ws k) (fun i => ws.length - i) 0 ⟨by omega, by simp [vmI], by simp [vmI], by simp [vmI], by simp [vmI], by omega⟩ ?_
  rintro i σ ⟨hi, e0, e5, e6, e7, hall⟩
  simp only [vmA, Nat.reduceEqDiff, reduceIte, Nat.reduceAdd, Nat.reduceBEq, reduceCtorEq, Nat.reduceLT, Int.reduceLE, Int.reduceLT, Int.reduceEq, Nat.reduceMul, Nat.reduceLeDiff, e0, e5, e6, e7, wA]
  refine ⟨fun hlt => ⟨hlt, by omega, callD (f106 _) ?_⟩, fun hge => ?_⟩
  · simp only [vmA, Nat.reduceEqDiff, reduceIte, Nat.reduceAdd, Nat.reduceBEq, reduceCtorEq, Nat.reduceLT, Int.reduceLE, Int.reduceLT, Int.reduceEq, Nat.reduceMul, Nat.reduceLeDiff, e0, e5, e6, e7]
    refine ⟨fun hk => ?_, fun hk' => callD (f107 _ _ (okmem hs (by omega)).1 (okmem hs (by omega)).2) ?_⟩
    · (refine hQ _ ?_; simp only [vmA, Nat.reduceEqDiff, reduceIte, Nat.reduceAdd, Nat.reduceBEq, reduceCtorEq, Nat.reduceLT, Int.reduceLE, Int.reduceLT, Int.reduceEq, Nat.reduceMul, Nat.reduceLeDiff, Tryz.f63, retG, resL, St.closeVs, St.closeV])
      exact leafF fun h => hk (h i (by omega)).1
    · have hlr := (okmem hs (show i < ws.length by omega)).1
      cases hg : ws[i]!.gone
      all_goals simp only [vmA, Nat.reduceEqDiff, reduceIte, Nat.reduceAdd, Nat.reduceBEq, reduceCtorEq, Nat.reduceLT, Int.reduceLE, Int.reduceLT, Int.reduceEq, Nat.reduceMul, Nat.reduceLeDiff, e0, e5, e6, e7, hg]
      · refine ⟨fun hr => ?_, fun hr => ⟨fun hpos => ?_, fun hz => ?_⟩⟩
        · (refine hQ _ ?_; simp only [vmA, Nat.reduceEqDiff, reduceIte, Nat.reduceAdd, Nat.reduceBEq, reduceCtorEq, Nat.reduceLT, Int.reduceLE, Int.reduceLT, Int.reduceEq, Nat.reduceMul, Nat.reduceLeDiff, Tryz.f63, retG, resL, St.closeVs, St.closeV])
          exact leafF fun h => hr (h i (by omega)).2.1
        · rw [wr (by omega)]
          refine ⟨by omega, by omega, ?_⟩
          rw [show ((i : Int) - 1).toNat = i - 1 by omega]
          simp only [vmA, Nat.reduceEqDiff, reduceIte, Nat.reduceAdd, Nat.reduceBEq, reduceCtorEq, Nat.reduceLT, Int.reduceLE, Int.reduceLT, Int.reduceEq, Nat.reduceMul, Nat.reduceLeDiff, e0, e5, e6, e7, wA]
          refine ⟨fun hge => ?_, fun hlt2 => ?_⟩
          · (refine hQ _ ?_; simp only [vmA, Nat.reduceEqDiff, reduceIte, Nat.reduceAdd, Nat.reduceBEq, reduceCtorEq, Nat.reduceLT, Int.reduceLE, Int.reduceLT, Int.reduceEq, Nat.reduceMul, Nat.reduceLeDiff, Tryz.f63, retG, resL, St.closeVs, St.closeV])
            exact leafF fun h => (h i (by omega)).2.2.2 ⟨by omega, hge⟩
          · rw [wr (by omega)]
            refine ⟨i + 1, ⟨by omega, rfl, fun k hk => ?_⟩, by omega⟩
            rcases Nat.lt_or_eq_of_le (Nat.le_of_lt_succ hk) with h | rfl
            · exact hall k h
            · exact ⟨hk', hr, fun h => absurd h.1 (by rw [hg]; decide), fun h => hlt2 h.2⟩
        · rw [wr (by omega)]
          refine ⟨i + 1, ⟨by omega, rfl, fun k hk => ?_⟩, by omega⟩
          rcases Nat.lt_or_eq_of_le (Nat.le_of_lt_succ hk) with h | rfl
          · exact hall k h
          · exact ⟨hk', hr, fun h => absurd h.1 (by rw [hg]; decide), by omega⟩
      · refine ⟨fun hr => ?_, fun hr => ⟨fun hlen => ?_, fun hlen => ⟨fun hpos => ?_, fun hz => ?_⟩⟩⟩
        · (refine hQ _ ?_; simp only [vmA, Nat.reduceEqDiff, reduceIte, Nat.reduceAdd, Nat.reduceBEq, reduceCtorEq, Nat.reduceLT, Int.reduceLE, Int.reduceLT, Int.reduceEq, Nat.reduceMul, Nat.reduceLeDiff, Tryz.f63, retG, resL, St.closeVs, St.closeV])
          exact leafF fun h => hr (h i (by omega)).2.1
        · (refine hQ _ ?_; simp only [vmA, Nat.reduceEqDiff, reduceIte, Nat.reduceAdd, Nat.reduceBEq, reduceCtorEq, Nat.reduceLT, Int.reduceLE, Int.reduceLT, Int.reduceEq, Nat.reduceMul, Nat.reduceLeDiff, Tryz.f63, retG, resL, St.closeVs, St.closeV])
          exact leafF fun h => (h i (by omega)).2.2.1 ⟨hg, by omega⟩
        · rw [wr (by omega)]
          refine ⟨by omega, by omega, ?_⟩
          rw [show ((i : Int) - 1).toNat = i - 1 by omega]
          simp only [vmA, Nat.reduceEqDiff, reduceIte, Nat.reduceAdd, Nat.reduceBEq, reduceCtorEq, Nat.reduceLT, Int.reduceLE, Int.reduceLT, Int.reduceEq, Nat.reduceMul, Nat.reduceLeDiff, e0, e5, e6, e7, wA]
          refine ⟨fun hge => ?_, fun hlt2 => ?_⟩
          · (refine hQ _ ?_; simp only [vmA, Nat.reduceEqDiff, reduceIte, Nat.reduceAdd, Nat.reduceBEq, reduceCtorEq, Nat.reduceLT, Int.reduceLE, Int.reduceLT, Int.reduceEq, Nat.reduceMul, Nat.reduceLeDiff, Tryz.f63, retG, resL, St.closeVs, St.closeV])
            exact leafF fun h => (h i (by omega)).2.2.2 ⟨by omega, hge⟩
          · rw [wr (by omega)]
            refine ⟨i + 1, ⟨by omega, rfl, fun k hk => ?_⟩, by omega⟩
            rcases Nat.lt_or_eq_of_le (Nat.le_of_lt_succ hk) with h | rfl
            · exact hall k h
            · exact ⟨hk', hr, fun h => hlen (by omega), fun h => hlt2 h.2⟩
        · rw [wr (by omega)]
          refine ⟨i + 1, ⟨by omega, rfl, fun k hk => ?_⟩, by omega⟩
          rcases Nat.lt_or_eq_of_le (Nat.le_of_lt_succ hk) with h | rfl
          · exact hall k h
          · exact ⟨hk', hr, fun h => hlen (by omega), by omega⟩
  · (refine hQ _ ?_; simp only [vmA, Nat.reduceEqDiff, reduceIte, Nat.reduceAdd, Nat.reduceBEq, reduceCtorEq, Nat.reduceLT, Int.reduceLE, Int.reduceLT, Int.reduceEq, Nat.reduceMul, Nat.reduceLeDiff, Tryz.f63, retG, resL, St.closeVs, St.closeV])
    have hw : wrsP ws := fun k hk => hall k (by omega)
    have := wrsP_len hw
    exact leafB ⟨fun _ => hw, fun _ => by omega⟩
theorem f164 (ws : List Wr) (c : Bool) (hl : ws.length ≤ 9223372036854775807) (hs : ∀ w ∈ ws, okW w) : Fx 164 [.fro none c (ws.map wA)] (.bool (decide (wrsP ws))) := by
  refine fn_of false Tryz.func164 (by kernel_rfl) rfl (by kernel_rfl) (by kernel_rfl) (Nat.le_of_ble_eq_true rfl) rfl fun Q hQ => ?_
  simp only [vmA, Nat.reduceEqDiff, reduceIte, Nat.reduceAdd, Nat.reduceBEq, reduceCtorEq, Nat.reduceLT, Int.reduceLE, Int.reduceLT, Int.reduceEq, Nat.reduceMul, Nat.reduceLeDiff]
  refine WT_loop (fun (i : Nat) σ => i ≤ ws.length ∧ σ.sl 0 = .fro none c (ws.map wA) ∧ σ.sl 3 = .int .i64 i ∧ ∀ k, k < i → wOkAt ws k) (fun i => ws.length - i) 0 ⟨by omega, by simp [vmI], by simp [vmI], by omega⟩ ?_
  rintro i σ ⟨hi, e0, e3, hall⟩
  simp only [vmA, Nat.reduceEqDiff, reduceIte, Nat.reduceAdd, Nat.reduceBEq, reduceCtorEq, Nat.reduceLT, Int.reduceLE, Int.reduceLT, Int.reduceEq, Nat.reduceMul, Nat.reduceLeDiff, e0, e3, wA]
  refine ⟨fun hlt => ⟨hlt, by omega, callD (f102 _ _ _) ?_⟩, fun hge => ?_⟩
  · simp only [vmA, Nat.reduceEqDiff, reduceIte, Nat.reduceAdd, Nat.reduceBEq, reduceCtorEq, Nat.reduceLT, Int.reduceLE, Int.reduceLT, Int.reduceEq, Nat.reduceMul, Nat.reduceLeDiff, e0, e3]
    refine ⟨fun hk => ?_, fun hk' => callD (f126 _ _ (okmem hs (by omega)).1 (okmem hs (by omega)).2) ?_⟩
    · (refine hQ _ ?_; simp only [vmA, Nat.reduceEqDiff, reduceIte, Nat.reduceAdd, Nat.reduceBEq, reduceCtorEq, Nat.reduceLT, Int.reduceLE, Int.reduceLT, Int.reduceEq, Nat.reduceMul, Nat.reduceLeDiff, Tryz.f164, retG, resL, St.closeVs, St.closeV])
      exact leafF fun h => by have := (h i (by omega)).1; omega
    · have hlr := (okmem hs (show i < ws.length by omega)).1
      cases hg : ws[i]!.gone
      all_goals simp only [vmA, Nat.reduceEqDiff, reduceIte, Nat.reduceAdd, Nat.reduceBEq, reduceCtorEq, Nat.reduceLT, Int.reduceLE, Int.reduceLT, Int.reduceEq, Nat.reduceMul, Nat.reduceLeDiff, e0, e3, hg]
      · refine ⟨fun hr => ?_, fun hr => ⟨fun hpos => ?_, fun hz => ?_⟩⟩
        · (refine hQ _ ?_; simp only [vmA, Nat.reduceEqDiff, reduceIte, Nat.reduceAdd, Nat.reduceBEq, reduceCtorEq, Nat.reduceLT, Int.reduceLE, Int.reduceLT, Int.reduceEq, Nat.reduceMul, Nat.reduceLeDiff, Tryz.f164, retG, resL, St.closeVs, St.closeV])
          exact leafF fun h => hr (h i (by omega)).2.1
        · rw [wr (by omega)]
          refine ⟨by omega, by omega, ?_⟩
          rw [show ((i : Int) - 1).toNat = i - 1 by omega]
          simp only [vmA, Nat.reduceEqDiff, reduceIte, Nat.reduceAdd, Nat.reduceBEq, reduceCtorEq, Nat.reduceLT, Int.reduceLE, Int.reduceLT, Int.reduceEq, Nat.reduceMul, Nat.reduceLeDiff, e0, e3, wA]
          refine ⟨fun hge => ?_, fun hlt2 => ?_⟩
          · (refine hQ _ ?_; simp only [vmA, Nat.reduceEqDiff, reduceIte, Nat.reduceAdd, Nat.reduceBEq, reduceCtorEq, Nat.reduceLT, Int.reduceLE, Int.reduceLT, Int.reduceEq, Nat.reduceMul, Nat.reduceLeDiff, Tryz.f164, retG, resL, St.closeVs, St.closeV])
            exact leafF fun h => (h i (by omega)).2.2.2 ⟨by omega, hge⟩
          · rw [wr (by omega)]
            refine ⟨i + 1, ⟨by omega, rfl, fun k hk => ?_⟩, by omega⟩
            rcases Nat.lt_or_eq_of_le (Nat.le_of_lt_succ hk) with h | rfl
            · exact hall k h
            · exact ⟨by omega, hr, fun h => absurd h.1 (by rw [hg]; decide), fun h => hlt2 h.2⟩
        · rw [wr (by omega)]
          refine ⟨i + 1, ⟨by omega, rfl, fun k hk => ?_⟩, by omega⟩
          rcases Nat.lt_or_eq_of_le (Nat.le_of_lt_succ hk) with h | rfl
          · exact hall k h
          · exact ⟨by omega, hr, fun h => absurd h.1 (by rw [hg]; decide), by omega⟩
      · refine ⟨fun hr => ?_, fun hr => ⟨fun hlen => ?_, fun hlen => ⟨fun hpos => ?_, fun hz => ?_⟩⟩⟩
        · (refine hQ _ ?_; simp only [vmA, Nat.reduceEqDiff, reduceIte, Nat.reduceAdd, Nat.reduceBEq, reduceCtorEq, Nat.reduceLT, Int.reduceLE, Int.reduceLT, Int.reduceEq, Nat.reduceMul, Nat.reduceLeDiff, Tryz.f164, retG, resL, St.closeVs, St.closeV])
          exact leafF fun h => hr (h i (by omega)).2.1
        · (refine hQ _ ?_; simp only [vmA, Nat.reduceEqDiff, reduceIte, Nat.reduceAdd, Nat.reduceBEq, reduceCtorEq, Nat.reduceLT, Int.reduceLE, Int.reduceLT, Int.reduceEq, Nat.reduceMul, Nat.reduceLeDiff, Tryz.f164, retG, resL, St.closeVs, St.closeV])
          exact leafF fun h => (h i (by omega)).2.2.1 ⟨hg, by omega⟩
        · rw [wr (by omega)]
          refine ⟨by omega, by omega, ?_⟩
          rw [show ((i : Int) - 1).toNat = i - 1 by omega]
          simp only [vmA, Nat.reduceEqDiff, reduceIte, Nat.reduceAdd, Nat.reduceBEq, reduceCtorEq, Nat.reduceLT, Int.reduceLE, Int.reduceLT, Int.reduceEq, Nat.reduceMul, Nat.reduceLeDiff, e0, e3, wA]
          refine ⟨fun hge => ?_, fun hlt2 => ?_⟩
          · (refine hQ _ ?_; simp only [vmA, Nat.reduceEqDiff, reduceIte, Nat.reduceAdd, Nat.reduceBEq, reduceCtorEq, Nat.reduceLT, Int.reduceLE, Int.reduceLT, Int.reduceEq, Nat.reduceMul, Nat.reduceLeDiff, Tryz.f164, retG, resL, St.closeVs, St.closeV])
            exact leafF fun h => (h i (by omega)).2.2.2 ⟨by omega, hge⟩
          · rw [wr (by omega)]
            refine ⟨i + 1, ⟨by omega, rfl, fun k hk => ?_⟩, by omega⟩
            rcases Nat.lt_or_eq_of_le (Nat.le_of_lt_succ hk) with h | rfl
            · exact hall k h
            · exact ⟨by omega, hr, fun h => hlen (by omega), fun h => hlt2 h.2⟩
        · rw [wr (by omega)]
          refine ⟨i + 1, ⟨by omega, rfl, fun k hk => ?_⟩, by omega⟩
          rcases Nat.lt_or_eq_of_le (Nat.le_of_lt_succ hk) with h | rfl
          · exact hall k h
          · exact ⟨by omega, hr, fun h => hlen (by omega), by omega⟩
  · (refine hQ _ ?_; simp only [vmA, Nat.reduceEqDiff, reduceIte, Nat.reduceAdd, Nat.reduceBEq, reduceCtorEq, Nat.reduceLT, Int.reduceLE, Int.reduceLT, Int.reduceEq, Nat.reduceMul, Nat.reduceLeDiff, Tryz.f164, retG, resL, St.closeVs, St.closeV])
    have hw : wrsP ws := fun k hk => hall k (by omega)
    exact leafB ⟨fun _ => hw, fun _ => trivial⟩
def lOkAt (es : List En) (i : Nat) : Prop := (1 ≤ es[i]!.time ∧ es[i]!.time ≤ 40) ∧ wrsP es[i]!.ws ∧ ¬ (0 < i ∧ es[i]!.time ≤ es[i - 1]!.time)
instance (es : List En) (i : Nat) : Decidable (lOkAt es i) := by unfold lOkAt; exact inferInstance
def logP (es : List En) : Prop := es.length ≤ 12 ∧ ∀ i, i < es.length → lOkAt es i
instance (es : List En) : Decidable (logP es) := by unfold logP; exact inferInstance
