/- WALK, or plain laws for it: theorem f<k> says what function k returns. Conditions: none but those ahead of each theorem. -/
import Derived.Test.YtklhdnjhgbglhaaGreatYB2
set_option linter.unusedVariables false
set_option linter.unusedSimpArgs false
open Nat renaming reduceEqDiff → sN1, reduceAdd → sN2, reduceBEq → sN3, reduceLT → sN4, reduceMul → sN5, reduceLeDiff → sN6, reduceSub → sN7
open Int renaming reduceLE → sI1, reduceLT → sI2, reduceEq → sI3
open Go Go.Vm Go.Proofs
set_option maxRecDepth 100000
set_option maxHeartbeats 8000000
set_option maxHeartbeats 8000000
section
variable {C : Cfg} {D : Vm.Spec} {q : Bool} {ops : Array Oper} {K : St → Prop} {σ : St} {d : Option Tmp} {ty : TypeId} {pos : String} {af : Array Edge} {rest : List Oper}
theorem t_max2 {x y : Operand} {ts : Array TypeId} {tg : Tag K} : opsT C D q ops K (⟨d, .call { callee := .builtin .max, args := #[x, y], argTypes := ts }, ty, pos, af, none⟩ :: rest) σ tg = exT (maxF (σ.get x) [σ.get y]) (fun v => opsT C D q ops K rest (σ.put d v) tg) ⟨⟩ := by
  unfold opsT exT
  simp [opsW, guardW, guardOf, opW, opG, opF, exP_some, looks, exP_bind]
theorem t_max3 {x y z : Operand} {ts : Array TypeId} {tg : Tag K} : opsT C D q ops K (⟨d, .call { callee := .builtin .max, args := #[x, y, z], argTypes := ts }, ty, pos, af, none⟩ :: rest) σ tg = exT (maxF (σ.get x) [σ.get y, σ.get z]) (fun v => opsT C D q ops K rest (σ.put d v) tg) ⟨⟩ := by
  unfold opsT exT
  simp [opsW, guardW, guardOf, opW, opG, opF, exP_some, looks, exP_bind]
end
theorem maxF2 (a b : Int) : maxF (.int .i64 a) [.int .i64 b] = some (.int .i64 (max a b)) := by
  simp only [maxF, if_true, Option.some.injEq, AV.int.injEq, true_and]
  split <;> omega
theorem maxF3 (a b c : Int) : maxF (.int .i64 a) [.int .i64 b, .int .i64 c] = some (.int .i64 (max (max a b) c)) := by
  simp only [maxF, if_true, Option.some.injEq, AV.int.injEq, true_and]
  split <;> split <;> omega
def verV (v : Ver) : Prop := (0 ≤ v.key ∧ v.key ≤ 4) ∧ (1 ≤ v.born ∧ v.born ≤ 40) ∧ (v.died = 0 ∨ v.born + 1 ≤ v.died ∧ v.died ≤ 40) ∧ rowP v.row
instance (v : Ver) : Decidable (verV v) := by unfold verV; exact inferInstance
theorem f162 (v : Ver) (hs : okR v.row) : Fx 162 [gA v] (.bool (decide (verV v))) := by
  refine fn_of ⟨false, [], []⟩ Tryz.func162 (by kernel_rfl) rfl (by kernel_rfl) (by kernel_rfl) (Nat.le_of_ble_eq_true rfl) rfl fun Q hQ => ?_
  simp only [vmA, sN1, reduceIte, sN2, sN3, reduceCtorEq, sN4, sI1, sI2, sI3, sN5, sN6, gA]
  refine callD (f102 _ _ _) ?_
  simp only [vmA, sN1, reduceIte, sN2, sN3, reduceCtorEq, sN4, sI1, sI2, sI3, sN5, sN6, gA]
  refine ⟨fun h1 => callD (f102 _ _ _) ?_, fun h1 => ?_⟩
  rotate_left
  · (refine hQ _ ?_; simp only [vmA, sN1, reduceIte, sN2, sN3, reduceCtorEq, sN4, sI1, sI2, sI3, sN5, sN6, Tryz.f162, retG, resL, St.closeVs, St.closeV])
    exact leafF fun h => h1 h.1
  simp only [vmA, sN1, reduceIte, sN2, sN3, reduceCtorEq, sN4, sI1, sI2, sI3, sN5, sN6, gA]
  refine ⟨fun h2 => ⟨fun h3 => callD (f126 _ _ hs.1 hs.2) ?_, fun h3 => callD (f102 _ _ _) ?_⟩, fun h2 => ?_⟩
  · simp only [vmA, sN1, reduceIte, sN2, sN3, reduceCtorEq, sN4, sI1, sI2, sI3, sN5, sN6, gA]
    (refine hQ _ ?_; simp only [vmA, sN1, reduceIte, sN2, sN3, reduceCtorEq, sN4, sI1, sI2, sI3, sN5, sN6, Tryz.f162, retG, resL, St.closeVs, St.closeV])
    exact leafB ⟨fun h => ⟨h1, h2, .inl h3, h⟩, fun h => h.2.2.2⟩
  · rw [wr (by omega)]
    simp only [vmA, sN1, reduceIte, sN2, sN3, reduceCtorEq, sN4, sI1, sI2, sI3, sN5, sN6, gA]
    refine ⟨fun h4 => callD (f126 _ _ hs.1 hs.2) ?_, fun h4 => ?_⟩
    · simp only [vmA, sN1, reduceIte, sN2, sN3, reduceCtorEq, sN4, sI1, sI2, sI3, sN5, sN6, gA]
      (refine hQ _ ?_; simp only [vmA, sN1, reduceIte, sN2, sN3, reduceCtorEq, sN4, sI1, sI2, sI3, sN5, sN6, Tryz.f162, retG, resL, St.closeVs, St.closeV])
      exact leafB ⟨fun h => ⟨h1, h2, .inr h4, h⟩, fun h => h.2.2.2⟩
    · (refine hQ _ ?_; simp only [vmA, sN1, reduceIte, sN2, sN3, reduceCtorEq, sN4, sI1, sI2, sI3, sN5, sN6, Tryz.f162, retG, resL, St.closeVs, St.closeV])
      exact leafF fun h => h4 (h.2.2.1.resolve_left h3)
  · (refine hQ _ ?_; simp only [vmA, sN1, reduceIte, sN2, sN3, reduceCtorEq, sN4, sI1, sI2, sI3, sN5, sN6, Tryz.f162, retG, resL, St.closeVs, St.closeV])
    exact leafF fun h => h2 h.2.1
def lastV (vs : List Ver) (k : Int) (a : Int) : Int := vs.foldl (fun a v => if v.key = k then max (max a v.born) v.died else a) a
theorem lastV_next (vs : List Ver) (k a : Int) {i : Nat} (h : i < vs.length) : lastV (vs.take (i + 1)) k a = if vs[i]!.key = k then max (max (lastV (vs.take i) k a) vs[i]!.born) vs[i]!.died else lastV (vs.take i) k a := by
  unfold lastV
  rw [take_next vs i h, List.foldl_append]
  rfl
theorem f108 (vs : List Ver) (c : Bool) (k : Int) (hl : vs.length ≤ 1048576) : Fx 108 [.fro none c (vs.map gA), .int .i64 k] (.int .i64 (lastV vs k 0)) := by
  refine fn_of ⟨false, [], []⟩ Tryz.func108 (by kernel_rfl) rfl (by kernel_rfl) (by kernel_rfl) (Nat.le_of_ble_eq_true rfl) rfl fun Q hQ => ?_
  simp only [vmA, sN1, reduceIte, sN2, sN3, reduceCtorEq, sN4, sI1, sI2, sI3, sN5, sN6, List.length_map]
  refine WT_loop (fun (i : Nat) σ => (i ≤ vs.length) ∧ σ.sl 10 = .int .i64 i ∧ σ.sl 9 = .int .i64 vs.length ∧ σ.sl 8 = .fro none c (vs.map gA) ∧ σ.sl 5 = .int .i64 (lastV (vs.take i) k 0) ∧ σ.sl 1 = .int .i64 k) (fun i => vs.length - i) (0) ⟨Nat.zero_le _, by simp [vmI, lastV, List.take_zero, List.foldl_nil], by simp [vmI, lastV, List.take_zero, List.foldl_nil], by simp [vmI, lastV, List.take_zero, List.foldl_nil], by simp [vmI, lastV, List.take_zero, List.foldl_nil], by simp [vmI, lastV, List.take_zero, List.foldl_nil]⟩ ?_
  rintro i σ ⟨hi, e10, e9, e8, e5, e1⟩
  simp only [vmA, sN1, reduceIte, sN2, sN3, reduceCtorEq, sN4, sI1, sI2, sI3, sN5, sN6, e10, e9, e8, e5, e1, gA, List.length_map, Option.bind_none, t_max2, t_max3, maxF2, maxF3]
  have hn := lastV_next vs k 0 (i := i)
  refine ⟨fun h => ⟨h, by omega, fun hk => ?_, fun hk => ?_⟩, fun h => ?_⟩
  · rw [wr (by omega)]
    have hn := hn (by omega)
    rw [if_pos hk] at hn
    exact ⟨i + 1, ⟨by omega, rfl, by rw [hn]⟩, by omega⟩
  · rw [wr (by omega)]
    have hn := hn (by omega)
    rw [if_neg hk] at hn
    exact ⟨i + 1, ⟨by omega, rfl, by rw [hn]⟩, by omega⟩
  · (refine hQ _ ?_; simp only [vmA, sN1, reduceIte, sN2, sN3, reduceCtorEq, sN4, sI1, sI2, sI3, sN5, sN6, Tryz.f108, retG, resL, St.closeVs, St.closeV, e10, e9, e8, e5, e1])
    rw [List.take_of_length_le (by omega)]
def turnV (vs : List Ver) : Nat → Int
  | 0 => 0
  | k + 1 => max (turnV vs k) (lastV vs k 0)
theorem f57 (vs : List Ver) (c : Bool) (hl : vs.length ≤ 1048576) : Fx 57 [.fro none c (vs.map gA)] (.int .i64 (turnV vs 5)) := by
  refine fn_of ⟨false, [], []⟩ Tryz.func57 (by kernel_rfl) rfl (by kernel_rfl) (by kernel_rfl) (Nat.le_of_ble_eq_true rfl) rfl fun Q hQ => ?_
  simp only [vmA, sN1, reduceIte, sN2, sN3, reduceCtorEq, sN4, sI1, sI2, sI3, sN5, sN6, List.length_map]
  refine WT_loop (fun (i : Nat) σ => (i ≤ 5) ∧ σ.sl 5 = .int .i64 i ∧ σ.sl 3 = .int .i64 (turnV vs i) ∧ σ.sl 0 = .fro none c (vs.map gA)) (fun i => 5 - i) (0) ⟨Nat.zero_le _, by simp [vmI, turnV], by simp [vmI, turnV], by simp [vmI, turnV]⟩ ?_
  rintro i σ ⟨hi, e5, e3, e0⟩
  simp only [vmA, sN1, reduceIte, sN2, sN3, reduceCtorEq, sN4, sI1, sI2, sI3, sN5, sN6, e5, e3, e0, List.length_map, t_max2, t_max3, maxF2, maxF3]
  refine ⟨fun h => callD (f108 vs c i hl) ?_, fun h => ?_⟩
  · simp only [vmA, sN1, reduceIte, sN2, sN3, reduceCtorEq, sN4, sI1, sI2, sI3, sN5, sN6, e5, e3, e0, List.length_map, t_max2, t_max3, maxF2, maxF3]
    rw [wr (by omega)]
    exact ⟨i + 1, ⟨by omega, rfl, rfl⟩, by omega⟩
  · (refine hQ _ ?_; simp only [vmA, sN1, reduceIte, sN2, sN3, reduceCtorEq, sN4, sI1, sI2, sI3, sN5, sN6, Tryz.f57, retG, resL, St.closeVs, St.closeV, e5, e3, e0])
    obtain rfl : i = 5 := by omega
    rfl
theorem verP_step {vs : List Ver} {i : Nat} (h : i < vs.length) (hall : ∀ k, k < i → vOkAt vs k) (hv : verV vs[i]!) :
    vOkAt vs i ↔ ¬ (0 < i ∧ vs[i]!.key ≤ vs[i - 1]!.key ∧ (vs[i]!.key < vs[i - 1]!.key ∨ vs[i - 1]!.died = 0 ∨ vs[i]!.born < vs[i - 1]!.died)) := by
  obtain ⟨v1, v2, v3, v4⟩ := hv
  unfold vOkAt
  constructor
  · rintro ⟨_, _, _, _, h5⟩ ⟨h6, h7, h8⟩
    exact h5 ⟨h6, by omega⟩
  · intro h5
    refine ⟨v1, v2, v3, v4, fun ⟨h6, h7⟩ => h5 ⟨h6, ?_⟩⟩
    have hp := (hall (i - 1) (by omega)).2.2.1
    omega
theorem f101 (vs : List Ver) (c : Bool) (hl : vs.length ≤ 9223372036854775807) (hs : ∀ v ∈ vs, okR v.row) : Fx 101 [.fro none c (vs.map gA)] (.bool (decide (verP vs))) := by
  refine fn_of ⟨false, [], []⟩ Tryz.func101 (by kernel_rfl) rfl (by kernel_rfl) (by kernel_rfl) (Nat.le_of_ble_eq_true rfl) rfl fun Q hQ => ?_
  simp only [vmA, sN1, reduceIte, sN2, sN3, reduceCtorEq, sN4, sI1, sI2, sI3, sN5, sN6, List.length_map]
  refine WT_loop (fun (i : Nat) σ => (i ≤ vs.length ∧ (∀ k, k < i → vOkAt vs k)) ∧ σ.sl 3 = .int .i64 i ∧ σ.sl 0 = .fro none c (vs.map gA)) (fun i => vs.length - i) (0) ⟨⟨Nat.zero_le _, by omega⟩, by simp [vmI], by simp [vmI]⟩ ?_
  rintro i σ ⟨hi, e3, e0⟩
  simp only [vmA, sN1, reduceIte, sN2, sN3, reduceCtorEq, sN4, sI1, sI2, sI3, sN5, sN6, e3, e0, gA, List.length_map]
  obtain ⟨hi, hall⟩ := hi
  have hF : ¬ vOkAt vs i → i < vs.length → AV.bool false = AV.bool (decide (verP vs)) := fun h1 h2 => leafF fun h => h1 (h.2 i h2)
  refine ⟨fun h => ⟨h, by omega, callD (f162 vs[i]! (hs _ (by rw [getElem!_pos vs i (by omega)]; exact List.getElem_mem _))) ?_⟩, fun h => ?_⟩
  · have hst := verP_step (vs := vs) (i := i) (by omega) hall
    have nxt : verV vs[i]! → ¬ (0 < i ∧ vs[i]!.key ≤ vs[i - 1]!.key ∧ (vs[i]!.key < vs[i - 1]!.key ∨ vs[i - 1]!.died = 0 ∨ vs[i]!.born < vs[i - 1]!.died)) → ∀ k, k < i + 1 → vOkAt vs k := fun hk g k hki => by
      rcases Nat.lt_or_eq_of_le (Nat.le_of_lt_succ hki) with h | rfl
      · exact hall k h
      · exact (hst hk).2 g
    simp only [vmA, sN1, reduceIte, sN2, sN3, reduceCtorEq, sN4, sI1, sI2, sI3, sN5, sN6, e3, e0, gA, List.length_map]
    refine ⟨fun hk => ?_, fun hk => ⟨fun h0 => ?_, fun h0 => ?_⟩⟩
    · (refine hQ _ ?_; simp only [vmA, sN1, reduceIte, sN2, sN3, reduceCtorEq, sN4, sI1, sI2, sI3, sN5, sN6, Tryz.f101, retG, resL, St.closeVs, St.closeV, e3, e0])
      exact hF (fun z => hk ⟨z.1, z.2.1, z.2.2.1, z.2.2.2.1⟩) (by omega)
    · have hw : IntKind.i64.wrap ((i : Int) - 1) = ((i - 1 : Nat) : Int) := by rw [wr (by omega)]; omega
      simp only [hw, Int.toNat_natCast]
      refine ⟨⟨by omega, by omega⟩, by omega, by omega, by omega, fun g1 => ?_, fun g1 => ?_⟩
      · refine ⟨⟨by omega, by omega⟩, by omega, by omega, by omega, fun g2 => ?_, fun g2 => ⟨⟨by omega, by omega⟩, by omega, fun g3 => ?_, fun g3 => ⟨⟨by omega, by omega⟩, by omega, by omega, by omega, fun g4 => ?_, fun g4 => ?_⟩⟩⟩
        · (refine hQ _ ?_; simp only [vmA, sN1, reduceIte, sN2, sN3, reduceCtorEq, sN4, sI1, sI2, sI3, sN5, sN6, Tryz.f101, retG, resL, St.closeVs, St.closeV, e3, e0])
          exact hF (fun z => (hst hk).1 z ⟨by omega, by omega, by omega⟩) (by omega)
        · (refine hQ _ ?_; simp only [vmA, sN1, reduceIte, sN2, sN3, reduceCtorEq, sN4, sI1, sI2, sI3, sN5, sN6, Tryz.f101, retG, resL, St.closeVs, St.closeV, e3, e0])
          exact hF (fun z => (hst hk).1 z ⟨by omega, by omega, by omega⟩) (by omega)
        · (refine hQ _ ?_; simp only [vmA, sN1, reduceIte, sN2, sN3, reduceCtorEq, sN4, sI1, sI2, sI3, sN5, sN6, Tryz.f101, retG, resL, St.closeVs, St.closeV, e3, e0])
          exact hF (fun z => (hst hk).1 z ⟨by omega, by omega, by omega⟩) (by omega)
        · rw [wr (by omega)]
          exact ⟨i + 1, ⟨⟨by omega, nxt hk (by omega)⟩, rfl⟩, by omega⟩
      · rw [wr (by omega)]
        exact ⟨i + 1, ⟨⟨by omega, nxt hk (by omega)⟩, rfl⟩, by omega⟩
    · rw [wr (by omega)]
      exact ⟨i + 1, ⟨⟨by omega, nxt hk (by omega)⟩, rfl⟩, by omega⟩
  · (refine hQ _ ?_; simp only [vmA, sN1, reduceIte, sN2, sN3, reduceCtorEq, sN4, sI1, sI2, sI3, sN5, sN6, Tryz.f101, retG, resL, St.closeVs, St.closeV, e3, e0])
    have hw : ∀ i, i < vs.length → vOkAt vs i := fun k hk => hall k (by omega)
    exact leafB ⟨fun h => ⟨by omega, hw⟩, fun h => by have := h.1; omega⟩
