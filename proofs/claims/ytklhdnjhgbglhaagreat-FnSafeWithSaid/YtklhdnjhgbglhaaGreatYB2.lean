/- WALK, or plain laws for it: theorem f<k> says what function k returns. Conditions: none but those ahead of each theorem. -/
import Derived.Test.YtklhdnjhgbglhaaGreatYH1
set_option linter.unusedVariables false
set_option linter.unusedSimpArgs false
open Nat renaming reduceEqDiff → sN1, reduceAdd → sN2, reduceBEq → sN3, reduceLT → sN4, reduceMul → sN5, reduceLeDiff → sN6, reduceSub → sN7
open Int renaming reduceLE → sI1, reduceLT → sI2, reduceEq → sI3
open Go Go.Vm Go.Proofs
set_option maxRecDepth 100000
set_option maxHeartbeats 8000000
set_option maxHeartbeats 8000000
def vOkAt (vs : List Ver) (i : Nat) : Prop := (0 ≤ vs[i]!.key ∧ vs[i]!.key ≤ 4) ∧ (1 ≤ vs[i]!.born ∧ vs[i]!.born ≤ 40) ∧ (vs[i]!.died = 0 ∨ vs[i]!.born + 1 ≤ vs[i]!.died ∧ vs[i]!.died ≤ 40) ∧ rowP vs[i]!.row ∧
  ¬ (0 < i ∧ (vs[i]!.key < vs[i - 1]!.key ∨ vs[i - 1]!.key = vs[i]!.key ∧ (vs[i]!.born ≤ vs[i - 1]!.born ∨ vs[i - 1]!.died = 0 ∨ vs[i]!.born < vs[i - 1]!.died)))
instance (vs : List Ver) (i : Nat) : Decidable (vOkAt vs i) := by unfold vOkAt; exact inferInstance
def verP (vs : List Ver) : Prop := vs.length ≤ 60 ∧ ∀ i, i < vs.length → vOkAt vs i
instance (vs : List Ver) : Decidable (verP vs) := by unfold verP; exact inferInstance
theorem f55 (vs : List Ver) (c : Bool) (hl : vs.length ≤ 9223372036854775807) (hs : ∀ v ∈ vs, okR v.row) : Fx 55 [.fro none c (vs.map gA)] (.bool (decide (verP vs))) := by
  refine fn_of ⟨false, [], []⟩ Tryz.func55 (by kernel_rfl) rfl (by kernel_rfl) (by kernel_rfl) (Nat.le_of_ble_eq_true rfl) rfl fun Q hQ => ?_
  simp only [vmA, sN1, reduceIte, sN2, sN3, reduceCtorEq, sN4, sI1, sI2, sI3, sN5, sN6, List.length_map]
  refine WT_loop (fun (i : Nat) σ => (i ≤ vs.length ∧ (∀ k, k < i → vOkAt vs k)) ∧ σ.sl 8 = .int .i64 i ∧ σ.sl 7 = .int .i64 vs.length ∧ σ.sl 6 = .fro none c (vs.map gA) ∧ σ.sl 0 = .fro none c (vs.map gA)) (fun i => vs.length - i) (0) ⟨⟨Nat.zero_le _, by omega⟩, by simp [vmI], by simp [vmI], by simp [vmI], by simp [vmI]⟩ ?_
  rintro i σ ⟨hi, e8, e7, e6, e0⟩
  simp only [vmA, sN1, reduceIte, sN2, sN3, reduceCtorEq, sN4, sI1, sI2, sI3, sN5, sN6, e8, e7, e6, e0, gA, List.length_map]
  obtain ⟨hi, hall⟩ := hi
  have hF : ¬ vOkAt vs i → i < vs.length → AV.bool false = AV.bool (decide (verP vs)) := fun h1 h2 => leafF fun h => h1 (h.2 i h2)
  refine ⟨fun h => ⟨h, by omega, callD (f106 _) ?_⟩, fun h => ?_⟩
  · have hok := hs vs[i]! (by rw [getElem!_pos vs i (by omega)]; exact List.getElem_mem _)
    simp only [vmA, sN1, reduceIte, sN2, sN3, reduceCtorEq, sN4, sI1, sI2, sI3, sN5, sN6, e8, e7, e6, e0, gA, List.length_map]
    refine ⟨fun hk => ?_, fun hk => callD (f56 _ _ _) ?_⟩
    · (refine hQ _ ?_; simp only [vmA, sN1, reduceIte, sN2, sN3, reduceCtorEq, sN4, sI1, sI2, sI3, sN5, sN6, Tryz.f55, retG, resL, St.closeVs, St.closeV, e8, e7, e6, e0])
      exact hF (fun z => hk z.1) (by omega)
    simp only [vmA, sN1, reduceIte, sN2, sN3, reduceCtorEq, sN4, sI1, sI2, sI3, sN5, sN6, e8, e7, e6, e0, gA, List.length_map]
    refine ⟨fun hb => ?_, fun hb => ?_⟩
    · (refine hQ _ ?_; simp only [vmA, sN1, reduceIte, sN2, sN3, reduceCtorEq, sN4, sI1, sI2, sI3, sN5, sN6, Tryz.f55, retG, resL, St.closeVs, St.closeV, e8, e7, e6, e0])
      exact hF (fun z => hb z.2.1) (by omega)
    have stp : (vs[i]!.died = 0 ∨ vs[i]!.born + 1 ≤ vs[i]!.died ∧ vs[i]!.died ≤ 40) → rowP vs[i]!.row → ¬ (0 < i ∧ (vs[i]!.key < vs[i - 1]!.key ∨ vs[i - 1]!.key = vs[i]!.key ∧ (vs[i]!.born ≤ vs[i - 1]!.born ∨ vs[i - 1]!.died = 0 ∨ vs[i]!.born < vs[i - 1]!.died))) → ∀ k, k < i + 1 → vOkAt vs k := fun g1 g2 g3 k hki => by
      rcases Nat.lt_or_eq_of_le (Nat.le_of_lt_succ hki) with h | rfl
      · exact hall k h
      · exact ⟨hk, hb, g1, g2, g3⟩
    refine ⟨fun hd => callD (f56 _ _ _) ?_, fun hd => callD (f107 _ _ hok.1 hok.2) ?_⟩
    · rw [wr (by omega)]
      simp only [vmA, sN1, reduceIte, sN2, sN3, reduceCtorEq, sN4, sI1, sI2, sI3, sN5, sN6, e8, e7, e6, e0, gA, List.length_map]
      refine ⟨fun hz => ?_, fun hz => callD (f107 _ _ hok.1 hok.2) ?_⟩
      · (refine hQ _ ?_; simp only [vmA, sN1, reduceIte, sN2, sN3, reduceCtorEq, sN4, sI1, sI2, sI3, sN5, sN6, Tryz.f55, retG, resL, St.closeVs, St.closeV, e8, e7, e6, e0])
        exact hF (fun z => hz (z.2.2.1.resolve_left hd)) (by omega)
      simp only [vmA, sN1, reduceIte, sN2, sN3, reduceCtorEq, sN4, sI1, sI2, sI3, sN5, sN6, e8, e7, e6, e0, gA, List.length_map]
      have hdd : vs[i]!.died = 0 ∨ vs[i]!.born + 1 ≤ vs[i]!.died ∧ vs[i]!.died ≤ 40 := .inr hz
      refine ⟨fun hr => ?_, fun hr => ⟨fun h0 => ?_, fun h0 => ?_⟩⟩
      · (refine hQ _ ?_; simp only [vmA, sN1, reduceIte, sN2, sN3, reduceCtorEq, sN4, sI1, sI2, sI3, sN5, sN6, Tryz.f55, retG, resL, St.closeVs, St.closeV, e8, e7, e6, e0])
        exact hF (fun z => hr z.2.2.2.1) (by omega)
      · rw [wr (by omega)]
        exact ⟨i + 1, ⟨⟨by omega, stp hdd hr (by omega)⟩, rfl⟩, by omega⟩
      · have hw : IntKind.i64.wrap ((i : Int) - 1) = ((i - 1 : Nat) : Int) := by rw [wr (by omega)]; omega
        simp only [hw, Int.toNat_natCast]
        refine ⟨⟨by omega, by omega⟩, by omega, fun g1 => ?_, fun g1 => ⟨fun g2 => ⟨fun g3 => ?_, fun g3 => ⟨fun g4 => ?_, fun g4 => ⟨fun g5 => ?_, fun g5 => ?_⟩⟩⟩, fun g2 => ?_⟩⟩
        · (refine hQ _ ?_; simp only [vmA, sN1, reduceIte, sN2, sN3, reduceCtorEq, sN4, sI1, sI2, sI3, sN5, sN6, Tryz.f55, retG, resL, St.closeVs, St.closeV, e8, e7, e6, e0])
          exact hF (fun z => z.2.2.2.2 ⟨by omega, by omega⟩) (by omega)
        · (refine hQ _ ?_; simp only [vmA, sN1, reduceIte, sN2, sN3, reduceCtorEq, sN4, sI1, sI2, sI3, sN5, sN6, Tryz.f55, retG, resL, St.closeVs, St.closeV, e8, e7, e6, e0])
          exact hF (fun z => z.2.2.2.2 ⟨by omega, by omega⟩) (by omega)
        · (refine hQ _ ?_; simp only [vmA, sN1, reduceIte, sN2, sN3, reduceCtorEq, sN4, sI1, sI2, sI3, sN5, sN6, Tryz.f55, retG, resL, St.closeVs, St.closeV, e8, e7, e6, e0])
          exact hF (fun z => z.2.2.2.2 ⟨by omega, by omega⟩) (by omega)
        · (refine hQ _ ?_; simp only [vmA, sN1, reduceIte, sN2, sN3, reduceCtorEq, sN4, sI1, sI2, sI3, sN5, sN6, Tryz.f55, retG, resL, St.closeVs, St.closeV, e8, e7, e6, e0])
          exact hF (fun z => z.2.2.2.2 ⟨by omega, by omega⟩) (by omega)
        · rw [wr (by omega)]
          exact ⟨i + 1, ⟨⟨by omega, stp hdd hr (by omega)⟩, rfl⟩, by omega⟩
        · rw [wr (by omega)]
          exact ⟨i + 1, ⟨⟨by omega, stp hdd hr (by omega)⟩, rfl⟩, by omega⟩
    · simp only [vmA, sN1, reduceIte, sN2, sN3, reduceCtorEq, sN4, sI1, sI2, sI3, sN5, sN6, e8, e7, e6, e0, gA, List.length_map]
      have hdd : vs[i]!.died = 0 ∨ vs[i]!.born + 1 ≤ vs[i]!.died ∧ vs[i]!.died ≤ 40 := .inl hd
      refine ⟨fun hr => ?_, fun hr => ⟨fun h0 => ?_, fun h0 => ?_⟩⟩
      · (refine hQ _ ?_; simp only [vmA, sN1, reduceIte, sN2, sN3, reduceCtorEq, sN4, sI1, sI2, sI3, sN5, sN6, Tryz.f55, retG, resL, St.closeVs, St.closeV, e8, e7, e6, e0])
        exact hF (fun z => hr z.2.2.2.1) (by omega)
      · rw [wr (by omega)]
        exact ⟨i + 1, ⟨⟨by omega, stp hdd hr (by omega)⟩, rfl⟩, by omega⟩
      · have hw : IntKind.i64.wrap ((i : Int) - 1) = ((i - 1 : Nat) : Int) := by rw [wr (by omega)]; omega
        simp only [hw, Int.toNat_natCast]
        refine ⟨⟨by omega, by omega⟩, by omega, fun g1 => ?_, fun g1 => ⟨fun g2 => ⟨fun g3 => ?_, fun g3 => ⟨fun g4 => ?_, fun g4 => ⟨fun g5 => ?_, fun g5 => ?_⟩⟩⟩, fun g2 => ?_⟩⟩
        · (refine hQ _ ?_; simp only [vmA, sN1, reduceIte, sN2, sN3, reduceCtorEq, sN4, sI1, sI2, sI3, sN5, sN6, Tryz.f55, retG, resL, St.closeVs, St.closeV, e8, e7, e6, e0])
          exact hF (fun z => z.2.2.2.2 ⟨by omega, by omega⟩) (by omega)
        · (refine hQ _ ?_; simp only [vmA, sN1, reduceIte, sN2, sN3, reduceCtorEq, sN4, sI1, sI2, sI3, sN5, sN6, Tryz.f55, retG, resL, St.closeVs, St.closeV, e8, e7, e6, e0])
          exact hF (fun z => z.2.2.2.2 ⟨by omega, by omega⟩) (by omega)
        · (refine hQ _ ?_; simp only [vmA, sN1, reduceIte, sN2, sN3, reduceCtorEq, sN4, sI1, sI2, sI3, sN5, sN6, Tryz.f55, retG, resL, St.closeVs, St.closeV, e8, e7, e6, e0])
          exact hF (fun z => z.2.2.2.2 ⟨by omega, by omega⟩) (by omega)
        · (refine hQ _ ?_; simp only [vmA, sN1, reduceIte, sN2, sN3, reduceCtorEq, sN4, sI1, sI2, sI3, sN5, sN6, Tryz.f55, retG, resL, St.closeVs, St.closeV, e8, e7, e6, e0])
          exact hF (fun z => z.2.2.2.2 ⟨by omega, by omega⟩) (by omega)
        · rw [wr (by omega)]
          exact ⟨i + 1, ⟨⟨by omega, stp hdd hr (by omega)⟩, rfl⟩, by omega⟩
        · rw [wr (by omega)]
          exact ⟨i + 1, ⟨⟨by omega, stp hdd hr (by omega)⟩, rfl⟩, by omega⟩
  · (refine hQ _ ?_; simp only [vmA, sN1, reduceIte, sN2, sN3, reduceCtorEq, sN4, sI1, sI2, sI3, sN5, sN6, Tryz.f55, retG, resL, St.closeVs, St.closeV, e8, e7, e6, e0])
    have hw : ∀ i, i < vs.length → vOkAt vs i := fun k hk => hall k (by omega)
    exact leafB ⟨fun h => ⟨by omega, hw⟩, fun h => by have := h.1; omega⟩
