/- WALK of functions of the seat, or plain laws for it: each theorem f<k> says what function k returns, for every world and all arguments that stand for the values named. Conditions: none but those ahead of each theorem. -/
import Derived.Test.YtklhdnjhgbglhaaGreatVF6
section
open Go Go.Vm Go.Proofs
set_option maxRecDepth 100000
set_option maxHeartbeats 8000000
set_option linter.unusedSimpArgs false
set_option linter.unusedVariables false
set_option maxHeartbeats 8000000
set_option linter.unusedSimpArgs false
set_option linter.unusedVariables false
set_option maxHeartbeats 8000000
set_option linter.unusedSimpArgs false
set_option linter.unusedVariables false
/-- A version of a row. -/
structure Ver where
  key : Int
  born : Int
  died : Int
  row : List Val
instance : Inhabited Ver := ⟨⟨0, 0, 0, []⟩⟩
def gA (v : Ver) : AV := .agg [.int .i64 v.key, .int .i64 v.born, .int .i64 v.died, .fro none false (v.row.map vA)]
def gO (v : Ver) : AV := .agg [.int .i64 v.key, .int .i64 v.born, .int .i64 v.died, .own 3 (v.row.map vA)]
theorem froize_gA (v : Ver) : froize (gA v) = gA v := rfl
theorem froize_gO (v : Ver) : froize (gO v) = gA v := by
  have := map_froize_vA v.row
  simp only [gO, gA, froize, froizeL, froizeL_eq, this]
theorem map_froize_gO (vs : List Ver) : (vs.map gO).map froize = vs.map gA := by simp [froize_gO]
theorem map_froize_gA (vs : List Ver) : (vs.map gA).map froize = vs.map gA := by simp [froize_gA]
set_option maxHeartbeats 8000000
set_option linter.unusedSimpArgs false
set_option linter.unusedVariables false
/-- It is there at the time. -/
def liveAt (key t : Int) (v : Ver) : Prop := v.key = key ∧ v.born ≤ t ∧ (v.died = 0 ∨ t < v.died)
instance (key t : Int) (v : Ver) : Decidable (liveAt key t v) := by unfold liveAt; exact inferInstance
def seenV (vs : List Ver) (key t : Int) : AV := match vs.find? (fun v => decide (liveAt key t v)) with
  | some v => .tup [gA v, .bool true]
  | none => .tup [.agg [.int .i64 0, .int .i64 0, .int .i64 0, .fro none true []], .bool false]
theorem find_some {α : Type} [Inhabited α] (p : α → Bool) : ∀ (vs : List α) (i : Nat), i < vs.length → (∀ j, j < i → p vs[j]! = false) → p vs[i]! = true → vs.find? p = some vs[i]!
  | [], i, h, _, _ => by simp at h
  | x :: xs, 0, _, _, h => by
    have : p x = true := by simpa using h
    simp only [List.find?_cons, this]
    rfl
  | x :: xs, i + 1, hl, h1, h2 => by
    have h0 := h1 0 (by omega)
    simp only [List.find?_cons]
    have : p x = false := by simpa using h0
    rw [this]
    have := find_some p xs i (by simpa using hl) (fun j hj => by simpa using h1 (j + 1) (by omega)) (by simpa using h2)
    simpa using this
set_option maxHeartbeats 8000000
set_option linter.unusedSimpArgs false
set_option linter.unusedVariables false
/-- One stands ahead of the other. -/
def vlt (v w : Ver) : Prop := v.key < w.key ∨ (v.key = w.key ∧ v.born < w.born ∧ v.died ≠ 0 ∧ v.died ≤ w.born)
structure GoodV (T : Int) (v : Ver) : Prop where
  key : 0 ≤ v.key ∧ v.key ≤ 4
  born : 1 ≤ v.born ∧ v.born ≤ T
  died : v.died = 0 ∨ v.born < v.died ∧ v.died ≤ T
  row : rowP v.row
  ok : okR v.row
structure Good (T : Int) (vs : List Ver) : Prop where
  top : T ≤ 40
  one : ∀ v ∈ vs, GoodV T v
  ord : vs.Pairwise vlt
  len : vs.length ≤ 60
theorem Good.at {T : Int} {vs : List Ver} (h : Good T vs) {i : Nat} (hi : i < vs.length) : GoodV T vs[i]! := h.one _ (by rw [getElem!_pos vs i hi]; exact List.getElem_mem _)
theorem Good.lt {T : Int} {vs : List Ver} (h : Good T vs) {i j : Nat} (hij : i < j) (hj : j < vs.length) : vlt vs[i]! vs[j]! := by
  rw [getElem!_pos vs i (by omega), getElem!_pos vs j hj]
  exact List.pairwise_iff_getElem.1 h.ord i j (by omega) hj hij
set_option maxHeartbeats 8000000
set_option linter.unusedSimpArgs false
set_option linter.unusedVariables false
theorem hasFroL_vA (xs : List Val) : hasFro.hasFroL (xs.map vA) = false := by
  induction xs with
  | nil => rfl
  | cons x xs ih => simp only [List.map_cons, hasFro.hasFroL, ih, vA, hasFro]; rfl
/-- The rows that are there at a time, of the first keys. -/
def rowsT (vs : List Ver) (t : Int) (n : Nat) : List (List Val) := (List.range n).filterMap fun (k : Nat) => (vs.find? (fun v => decide (liveAt (k : Int) t v))).map Ver.row
def riAt (lo hi : Int) (xs : List Int) (i : Nat) : Prop := (lo ≤ xs[i]! ∧ xs[i]! ≤ hi) ∧ ¬ (0 < i ∧ xs[i]! ≤ xs[i - 1]!)
instance (lo hi : Int) (xs : List Int) (i : Nat) : Decidable (riAt lo hi xs i) := by unfold riAt; exact inferInstance
def riP (lo hi : Int) (xs : List Int) : Prop := ∀ i, i < xs.length → riAt lo hi xs i
instance (lo hi : Int) (xs : List Int) : Decidable (riP lo hi xs) := by unfold riP; exact inferInstance
theorem f109 (xs : List Int) (c : Bool) (lo hi : Int) (hl : xs.length ≤ 9223372036854775807) : Fx 109 [.fro none c (xs.map iA), .int .i64 lo, .int .i64 hi] (.bool (decide (riP lo hi xs))) := by
  refine fn_of false Tryz.func109 (by kernel_rfl) rfl (by kernel_rfl) (by kernel_rfl) (Nat.le_of_ble_eq_true rfl) rfl fun Q hQ => ?_
  simp only [vmA, Nat.reduceEqDiff, reduceIte, Nat.reduceAdd, Nat.reduceBEq, reduceCtorEq, Nat.reduceLT, Int.reduceLE, Int.reduceLT, Int.reduceEq, Nat.reduceMul, Nat.reduceLeDiff]
  refine WT_loop (fun (i : Nat) σ => i ≤ xs.length ∧ σ.sl 0 = .fro none c (xs.map iA) ∧ σ.sl 1 = .int .i64 lo ∧ σ.sl 2 = .int .i64 hi ∧ σ.sl 9 = .fro none c (xs.map iA) ∧ σ.sl 10 = .int .i64 xs.length ∧ σ.sl 11 = .int .i64 i ∧ ∀ k, k < i → riAt lo hi xs k) (fun i => xs.length - i) 0 ⟨by omega, by simp [vmI], by simp [vmI], by simp [vmI], by simp [vmI], by simp [vmI], by simp [vmI], by omega⟩ ?_
  rintro i σ ⟨hi', e0, e1, e2, e9, e10, e11, hall⟩
  simp only [vmA, Nat.reduceEqDiff, reduceIte, Nat.reduceAdd, Nat.reduceBEq, reduceCtorEq, Nat.reduceLT, Int.reduceLE, Int.reduceLT, Int.reduceEq, Nat.reduceMul, Nat.reduceLeDiff, e0, e1, e2, e9, e10, e11]
  refine ⟨fun hlt => ⟨hlt, by omega, callD (f56 _ _ _) ?_⟩, fun hge => ?_⟩
  · simp only [vmA, Nat.reduceEqDiff, reduceIte, Nat.reduceAdd, Nat.reduceBEq, reduceCtorEq, Nat.reduceLT, Int.reduceLE, Int.reduceLT, Int.reduceEq, Nat.reduceMul, Nat.reduceLeDiff, e0, e1, e2, e9, e10, e11]
    refine ⟨fun hk => ?_, fun hk => ⟨fun hpos => ?_, fun hz => ?_⟩⟩
    · (refine hQ _ ?_; simp only [vmA, Nat.reduceEqDiff, reduceIte, Nat.reduceAdd, Nat.reduceBEq, reduceCtorEq, Nat.reduceLT, Int.reduceLE, Int.reduceLT, Int.reduceEq, Nat.reduceMul, Nat.reduceLeDiff, Tryz.f109, retG, resL, St.closeVs, St.closeV])
      exact leafF fun h => hk (h i (by omega)).1
    · rw [wr (by omega)]
      refine ⟨by omega, by omega, ?_⟩
      rw [show ((i : Int) - 1).toNat = i - 1 by omega]
      refine ⟨fun hge => ?_, fun hlt2 => ?_⟩
      · (refine hQ _ ?_; simp only [vmA, Nat.reduceEqDiff, reduceIte, Nat.reduceAdd, Nat.reduceBEq, reduceCtorEq, Nat.reduceLT, Int.reduceLE, Int.reduceLT, Int.reduceEq, Nat.reduceMul, Nat.reduceLeDiff, Tryz.f109, retG, resL, St.closeVs, St.closeV])
        exact leafF fun h => (h i (by omega)).2 ⟨by omega, hge⟩
      · rw [wr (by omega)]
        refine ⟨i + 1, ⟨by omega, rfl, fun k hkk => ?_⟩, by omega⟩
        rcases Nat.lt_or_eq_of_le (Nat.le_of_lt_succ hkk) with h | rfl
        · exact hall k h
        · exact ⟨hk, fun h => hlt2 h.2⟩
    · rw [wr (by omega)]
      refine ⟨i + 1, ⟨by omega, rfl, fun k hkk => ?_⟩, by omega⟩
      rcases Nat.lt_or_eq_of_le (Nat.le_of_lt_succ hkk) with h | rfl
      · exact hall k h
      · exact ⟨hk, by omega⟩
  · (refine hQ _ ?_; simp only [vmA, Nat.reduceEqDiff, reduceIte, Nat.reduceAdd, Nat.reduceBEq, reduceCtorEq, Nat.reduceLT, Int.reduceLE, Int.reduceLT, Int.reduceEq, Nat.reduceMul, Nat.reduceLeDiff, Tryz.f109, retG, resL, St.closeVs, St.closeV])
    exact leafB ⟨fun _ k hk => hall k (by omega), fun _ => trivial⟩
set_option maxHeartbeats 8000000
set_option linter.unusedSimpArgs false
set_option linter.unusedVariables false
set_option maxHeartbeats 8000000
set_option linter.unusedSimpArgs false
set_option linter.unusedVariables false
end
section
open Go Go.Vm Go.Proofs
set_option maxRecDepth 100000
set_option maxHeartbeats 8000000
set_option linter.unusedSimpArgs false
set_option linter.unusedVariables false
set_option maxHeartbeats 8000000
set_option linter.unusedSimpArgs false
set_option linter.unusedVariables false
def vOkAt (vs : List Ver) (i : Nat) : Prop := (0 ≤ vs[i]!.key ∧ vs[i]!.key ≤ 4) ∧ (1 ≤ vs[i]!.born ∧ vs[i]!.born ≤ 40) ∧ (vs[i]!.died = 0 ∨ vs[i]!.born + 1 ≤ vs[i]!.died ∧ vs[i]!.died ≤ 40) ∧ rowP vs[i]!.row ∧
  ¬ (0 < i ∧ (vs[i]!.key < vs[i - 1]!.key ∨ vs[i - 1]!.key = vs[i]!.key ∧ (vs[i]!.born ≤ vs[i - 1]!.born ∨ vs[i - 1]!.died = 0 ∨ vs[i]!.born < vs[i - 1]!.died)))
instance (vs : List Ver) (i : Nat) : Decidable (vOkAt vs i) := by unfold vOkAt; exact inferInstance
def verP (vs : List Ver) : Prop := vs.length ≤ 60 ∧ ∀ i, i < vs.length → vOkAt vs i
instance (vs : List Ver) : Decidable (verP vs) := by unfold verP; exact inferInstance
theorem f55 (vs : List Ver) (c : Bool) (hl : vs.length ≤ 9223372036854775807) (hs : ∀ v ∈ vs, okR v.row) : Fx 55 [.fro none c (vs.map gA)] (.bool (decide (verP vs))) := by
  refine fn_of ⟨false, [], []⟩ Tryz.func55 (by kernel_rfl) rfl (by kernel_rfl) (by kernel_rfl) (Nat.le_of_ble_eq_true rfl) rfl fun Q hQ => ?_
  simp only [vmA, Nat.reduceEqDiff, reduceIte, Nat.reduceAdd, Nat.reduceBEq, reduceCtorEq, Nat.reduceLT, Int.reduceLE, Int.reduceLT, Int.reduceEq, Nat.reduceMul, Nat.reduceLeDiff, List.length_map]
  refine WT_loop (fun (i : Nat) σ => (i ≤ vs.length ∧ (∀ k, k < i → vOkAt vs k)) ∧ σ.sl 8 = .int .i64 i ∧ σ.sl 7 = .int .i64 vs.length ∧ σ.sl 6 = .fro none c (vs.map gA) ∧ σ.sl 0 = .fro none c (vs.map gA)) (fun i => vs.length - i) (0) ⟨⟨Nat.zero_le _, by omega⟩, by simp [vmI], by simp [vmI], by simp [vmI], by simp [vmI]⟩ ?_
  rintro i σ ⟨hi, e8, e7, e6, e0⟩
  simp only [vmA, Nat.reduceEqDiff, reduceIte, Nat.reduceAdd, Nat.reduceBEq, reduceCtorEq, Nat.reduceLT, Int.reduceLE, Int.reduceLT, Int.reduceEq, Nat.reduceMul, Nat.reduceLeDiff, e8, e7, e6, e0, gA, List.length_map]
  obtain ⟨hi, hall⟩ := hi
  have hF : ¬ vOkAt vs i → i < vs.length → AV.bool false = AV.bool (decide (verP vs)) := fun h1 h2 => leafF fun h => h1 (h.2 i h2)
  refine ⟨fun h => ⟨h, by omega, callD (f106 _) ?_⟩, fun h => ?_⟩
  · have hok := hs vs[i]! (by rw [getElem!_pos vs i (by omega)]; exact List.getElem_mem _)
    simp only [vmA, Nat.reduceEqDiff, reduceIte, Nat.reduceAdd, Nat.reduceBEq, reduceCtorEq, Nat.reduceLT, Int.reduceLE, Int.reduceLT, Int.reduceEq, Nat.reduceMul, Nat.reduceLeDiff, e8, e7, e6, e0, gA, List.length_map]
    refine ⟨fun hk => ?_, fun hk => callD (f56 _ _ _) ?_⟩
    · (refine hQ _ ?_; simp only [vmA, Nat.reduceEqDiff, reduceIte, Nat.reduceAdd, Nat.reduceBEq, reduceCtorEq, Nat.reduceLT, Int.reduceLE, Int.reduceLT, Int.reduceEq, Nat.reduceMul, Nat.reduceLeDiff, Tryz.f55, retG, resL, St.closeVs, St.closeV, e8, e7, e6, e0])
      exact hF (fun z => hk z.1) (by omega)
    simp only [vmA, Nat.reduceEqDiff, reduceIte, Nat.reduceAdd, Nat.reduceBEq, reduceCtorEq, Nat.reduceLT, Int.reduceLE, Int.reduceLT, Int.reduceEq, Nat.reduceMul, Nat.reduceLeDiff, e8, e7, e6, e0, gA, List.length_map]
    refine ⟨fun hb => ?_, fun hb => ?_⟩
    · (refine hQ _ ?_; simp only [vmA, Nat.reduceEqDiff, reduceIte, Nat.reduceAdd, Nat.reduceBEq, reduceCtorEq, Nat.reduceLT, Int.reduceLE, Int.reduceLT, Int.reduceEq, Nat.reduceMul, Nat.reduceLeDiff, Tryz.f55, retG, resL, St.closeVs, St.closeV, e8, e7, e6, e0])
      exact hF (fun z => hb z.2.1) (by omega)
    have stp : (vs[i]!.died = 0 ∨ vs[i]!.born + 1 ≤ vs[i]!.died ∧ vs[i]!.died ≤ 40) → rowP vs[i]!.row → ¬ (0 < i ∧ (vs[i]!.key < vs[i - 1]!.key ∨ vs[i - 1]!.key = vs[i]!.key ∧ (vs[i]!.born ≤ vs[i - 1]!.born ∨ vs[i - 1]!.died = 0 ∨ vs[i]!.born < vs[i - 1]!.died))) → ∀ k, k < i + 1 → vOkAt vs k := fun g1 g2 g3 k hki => by
      rcases Nat.lt_or_eq_of_le (Nat.le_of_lt_succ hki) with h | rfl
      · exact hall k h
      · exact ⟨hk, hb, g1, g2, g3⟩
    refine ⟨fun hd => callD (f56 _ _ _) ?_, fun hd => callD (f107 _ _ hok.1 hok.2) ?_⟩
    · rw [wr (by omega)]
      simp only [vmA, Nat.reduceEqDiff, reduceIte, Nat.reduceAdd, Nat.reduceBEq, reduceCtorEq, Nat.reduceLT, Int.reduceLE, Int.reduceLT, Int.reduceEq, Nat.reduceMul, Nat.reduceLeDiff, e8, e7, e6, e0, gA, List.length_map]
      refine ⟨fun hz => ?_, fun hz => callD (f107 _ _ hok.1 hok.2) ?_⟩
      · (refine hQ _ ?_; simp only [vmA, Nat.reduceEqDiff, reduceIte, Nat.reduceAdd, Nat.reduceBEq, reduceCtorEq, Nat.reduceLT, Int.reduceLE, Int.reduceLT, Int.reduceEq, Nat.reduceMul, Nat.reduceLeDiff, Tryz.f55, retG, resL, St.closeVs, St.closeV, e8, e7, e6, e0])
        exact hF (fun z => hz (z.2.2.1.resolve_left hd)) (by omega)
      simp only [vmA, Nat.reduceEqDiff, reduceIte, Nat.reduceAdd, Nat.reduceBEq, reduceCtorEq, Nat.reduceLT, Int.reduceLE, Int.reduceLT, Int.reduceEq, Nat.reduceMul, Nat.reduceLeDiff, e8, e7, e6, e0, gA, List.length_map]
      have hdd : vs[i]!.died = 0 ∨ vs[i]!.born + 1 ≤ vs[i]!.died ∧ vs[i]!.died ≤ 40 := .inr hz
      refine ⟨fun hr => ?_, fun hr => ⟨fun h0 => ?_, fun h0 => ?_⟩⟩
      · (refine hQ _ ?_; simp only [vmA, Nat.reduceEqDiff, reduceIte, Nat.reduceAdd, Nat.reduceBEq, reduceCtorEq, Nat.reduceLT, Int.reduceLE, Int.reduceLT, Int.reduceEq, Nat.reduceMul, Nat.reduceLeDiff, Tryz.f55, retG, resL, St.closeVs, St.closeV, e8, e7, e6, e0])
        exact hF (fun z => hr z.2.2.2.1) (by omega)
      · rw [wr (by omega)]
        exact ⟨i + 1, ⟨⟨by omega, stp hdd hr (by omega)⟩, rfl⟩, by omega⟩
      · have hw : IntKind.i64.wrap ((i : Int) - 1) = ((i - 1 : Nat) : Int) := by rw [wr (by omega)]; omega
        simp only [hw, Int.toNat_natCast]
        refine ⟨⟨by omega, by omega⟩, by omega, fun g1 => ?_, fun g1 => ⟨fun g2 => ⟨fun g3 => ?_, fun g3 => ⟨fun g4 => ?_, fun g4 => ⟨fun g5 => ?_, fun g5 => ?_⟩⟩⟩, fun g2 => ?_⟩⟩
        · (refine hQ _ ?_; simp only [vmA, Nat.reduceEqDiff, reduceIte, Nat.reduceAdd, Nat.reduceBEq, reduceCtorEq, Nat.reduceLT, Int.reduceLE, Int.reduceLT, Int.reduceEq, Nat.reduceMul, Nat.reduceLeDiff, Tryz.f55, retG, resL, St.closeVs, St.closeV, e8, e7, e6, e0])
          exact hF (fun z => z.2.2.2.2 ⟨by omega, by omega⟩) (by omega)
        · (refine hQ _ ?_; simp only [vmA, Nat.reduceEqDiff, reduceIte, Nat.reduceAdd, Nat.reduceBEq, reduceCtorEq, Nat.reduceLT, Int.reduceLE, Int.reduceLT, Int.reduceEq, Nat.reduceMul, Nat.reduceLeDiff, Tryz.f55, retG, resL, St.closeVs, St.closeV, e8, e7, e6, e0])
          exact hF (fun z => z.2.2.2.2 ⟨by omega, by omega⟩) (by omega)
        · (refine hQ _ ?_; simp only [vmA, Nat.reduceEqDiff, reduceIte, Nat.reduceAdd, Nat.reduceBEq, reduceCtorEq, Nat.reduceLT, Int.reduceLE, Int.reduceLT, Int.reduceEq, Nat.reduceMul, Nat.reduceLeDiff, Tryz.f55, retG, resL, St.closeVs, St.closeV, e8, e7, e6, e0])
          exact hF (fun z => z.2.2.2.2 ⟨by omega, by omega⟩) (by omega)
        · (refine hQ _ ?_; simp only [vmA, Nat.reduceEqDiff, reduceIte, Nat.reduceAdd, Nat.reduceBEq, reduceCtorEq, Nat.reduceLT, Int.reduceLE, Int.reduceLT, Int.reduceEq, Nat.reduceMul, Nat.reduceLeDiff, Tryz.f55, retG, resL, St.closeVs, St.closeV, e8, e7, e6, e0])
          exact hF (fun z => z.2.2.2.2 ⟨by omega, by omega⟩) (by omega)
        · rw [wr (by omega)]
          exact ⟨i + 1, ⟨⟨by omega, stp hdd hr (by omega)⟩, rfl⟩, by omega⟩
        · rw [wr (by omega)]
          exact ⟨i + 1, ⟨⟨by omega, stp hdd hr (by omega)⟩, rfl⟩, by omega⟩
    · simp only [vmA, Nat.reduceEqDiff, reduceIte, Nat.reduceAdd, Nat.reduceBEq, reduceCtorEq, Nat.reduceLT, Int.reduceLE, Int.reduceLT, Int.reduceEq, Nat.reduceMul, Nat.reduceLeDiff, e8, e7, e6, e0, gA, List.length_map]
      have hdd : vs[i]!.died = 0 ∨ vs[i]!.born + 1 ≤ vs[i]!.died ∧ vs[i]!.died ≤ 40 := .inl hd
      refine ⟨fun hr => ?_, fun hr => ⟨fun h0 => ?_, fun h0 => ?_⟩⟩
      · (refine hQ _ ?_; simp only [vmA, Nat.reduceEqDiff, reduceIte, Nat.reduceAdd, Nat.reduceBEq, reduceCtorEq, Nat.reduceLT, Int.reduceLE, Int.reduceLT, Int.reduceEq, Nat.reduceMul, Nat.reduceLeDiff, Tryz.f55, retG, resL, St.closeVs, St.closeV, e8, e7, e6, e0])
        exact hF (fun z => hr z.2.2.2.1) (by omega)
      · rw [wr (by omega)]
        exact ⟨i + 1, ⟨⟨by omega, stp hdd hr (by omega)⟩, rfl⟩, by omega⟩
      · have hw : IntKind.i64.wrap ((i : Int) - 1) = ((i - 1 : Nat) : Int) := by rw [wr (by omega)]; omega
        simp only [hw, Int.toNat_natCast]
        refine ⟨⟨by omega, by omega⟩, by omega, fun g1 => ?_, fun g1 => ⟨fun g2 => ⟨fun g3 => ?_, fun g3 => ⟨fun g4 => ?_, fun g4 => ⟨fun g5 => ?_, fun g5 => ?_⟩⟩⟩, fun g2 => ?_⟩⟩
        · (refine hQ _ ?_; simp only [vmA, Nat.reduceEqDiff, reduceIte, Nat.reduceAdd, Nat.reduceBEq, reduceCtorEq, Nat.reduceLT, Int.reduceLE, Int.reduceLT, Int.reduceEq, Nat.reduceMul, Nat.reduceLeDiff, Tryz.f55, retG, resL, St.closeVs, St.closeV, e8, e7, e6, e0])
          exact hF (fun z => z.2.2.2.2 ⟨by omega, by omega⟩) (by omega)
        · (refine hQ _ ?_; simp only [vmA, Nat.reduceEqDiff, reduceIte, Nat.reduceAdd, Nat.reduceBEq, reduceCtorEq, Nat.reduceLT, Int.reduceLE, Int.reduceLT, Int.reduceEq, Nat.reduceMul, Nat.reduceLeDiff, Tryz.f55, retG, resL, St.closeVs, St.closeV, e8, e7, e6, e0])
          exact hF (fun z => z.2.2.2.2 ⟨by omega, by omega⟩) (by omega)
        · (refine hQ _ ?_; simp only [vmA, Nat.reduceEqDiff, reduceIte, Nat.reduceAdd, Nat.reduceBEq, reduceCtorEq, Nat.reduceLT, Int.reduceLE, Int.reduceLT, Int.reduceEq, Nat.reduceMul, Nat.reduceLeDiff, Tryz.f55, retG, resL, St.closeVs, St.closeV, e8, e7, e6, e0])
          exact hF (fun z => z.2.2.2.2 ⟨by omega, by omega⟩) (by omega)
        · (refine hQ _ ?_; simp only [vmA, Nat.reduceEqDiff, reduceIte, Nat.reduceAdd, Nat.reduceBEq, reduceCtorEq, Nat.reduceLT, Int.reduceLE, Int.reduceLT, Int.reduceEq, Nat.reduceMul, Nat.reduceLeDiff, Tryz.f55, retG, resL, St.closeVs, St.closeV, e8, e7, e6, e0])
          exact hF (fun z => z.2.2.2.2 ⟨by omega, by omega⟩) (by omega)
        · rw [wr (by omega)]
          exact ⟨i + 1, ⟨⟨by omega, stp hdd hr (by omega)⟩, rfl⟩, by omega⟩
        · rw [wr (by omega)]
          exact ⟨i + 1, ⟨⟨by omega, stp hdd hr (by omega)⟩, rfl⟩, by omega⟩
  · (refine hQ _ ?_; simp only [vmA, Nat.reduceEqDiff, reduceIte, Nat.reduceAdd, Nat.reduceBEq, reduceCtorEq, Nat.reduceLT, Int.reduceLE, Int.reduceLT, Int.reduceEq, Nat.reduceMul, Nat.reduceLeDiff, Tryz.f55, retG, resL, St.closeVs, St.closeV, e8, e7, e6, e0])
    have hw : ∀ i, i < vs.length → vOkAt vs i := fun k hk => hall k (by omega)
    exact leafB ⟨fun h => ⟨by omega, hw⟩, fun h => by have := h.1; omega⟩
end
